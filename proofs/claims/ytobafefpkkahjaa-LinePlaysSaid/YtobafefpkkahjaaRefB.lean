/- The reference's Next. -/
import Derived.Test.YtobafefpkkahjaaRefA
import Derived.Test.YtobafefpkkahjaaAllA
import Derived.Test.YtobafefpkkahjaaPlan
import Derived.Deep.QuietTactic
import Derived.BigQuiet
namespace Go.Proofs.Ytobafefpkkahjaa
open Go.RowKit

/-- What the reference's Next hands back. -/
def RTold (w : World) (Y : Nat) (a : Option Addr) (kind : Int) (data : List UInt8) (ok : Bool) (bs' : List UInt8) (want' : Bool) (n' : Int) (dr' : Bool) (e : Ending) (w' : World) : Prop :=
  ∃ r rc a' cap', e = .returned (.tuple #[.agg #[.int .i64 kind, .slice r data.length rc], .bool ok]) ∧ Rd w' r data ∧ YAt w' Y a' cap' bs' want' n' dr' ∧ Touch w w' (fun k => k = Y) ∧ ∀ ad, a' = some ad → 0 < bs'.length → InA a ad.block

theorem touch_drewN (w : World) (n : Nat) (M : Nat → Prop) : Touch w (w.drewN n) M := by
  induction n with
  | zero => exact Touch.refl _ _
  | succ n ih => exact ih.trans (Touch.drew (w.drewN n) M) (fun _ _ h => h)

theorem rtold_of {w w1 : World} {Y : Nat} {kind : Int} {data : List UInt8} {ok : Bool} {a a' r : Option Addr} {cap' rc m : Nat} {bs' : List UInt8} {want' : Bool} {n' : Int} {dr' : Bool} (hYw : Y < w.heap.size) (hm : m = data.length)
    (ht : Touch w w1 (fun k => k = Y)) (hr : Rd w1 r data) (hrb : ∀ ad, r = some ad → 0 < data.length → ad.block ≠ w.heap.size) (hy : YAt w1 Y a' cap' bs' want' n' dr') (ha : ∀ ad, a' = some ad → 0 < bs'.length → ad.block ≠ w.heap.size) (hin : ∀ ad, a' = some ad → 0 < bs'.length → InA a ad.block) (v0 v1 : Value) :
    RTold w Y a kind data ok bs' want' n' dr' (.returned (.tuple #[.agg #[.int .i64 kind, .slice r m rc], .bool ok])) ((w1.setCell ⟨w.heap.size, 0, none⟩ v0).setCell ⟨w.heap.size, 1, none⟩ v1) := by
  subst hm
  have t1 : Touch w1 ((w1.setCell ⟨w.heap.size, 0, none⟩ v0).setCell ⟨w.heap.size, 1, none⟩ v1) (fun k => k = w.heap.size) :=
    (Touch.setCell w1 ⟨w.heap.size, 0, none⟩ v0 (M := fun k => k = w.heap.size) rfl).trans (Touch.setCell _ ⟨w.heap.size, 1, none⟩ v1 (M := fun k => k = w.heap.size) rfl) (fun _ _ h => h)
  exact ⟨r, rc, a', cap', rfl, fun hl => hr.touch t1 (fun ⟨ad, had, hm⟩ => hrb ad had hl hm) hl, hy.touch t1 (by omega) ha, ht.trans t1 (fun i hi h => by omega), hin⟩

set_option maxRecDepth 10000 in
theorem rnext_short (Y : Nat) (a : Option Addr) (cap : Nat) (bs : List UInt8) (n : Int) (dr : Bool) (w : World) (hy : YAt w Y a cap bs true n dr) (h1 : (bs.length : Int) < n) :
    Calls Try.prog 18 #[.pointer (some ⟨Y, 0, none⟩)] w fun e w' => RTold w Y a 0 [] false bs true n dr e w' := by
  have hb := blk_alloc (o := .cells #[.int .i64 0, .slice none 0 0] 30) hy.cell
  have c0 : (w.alloc (.cells #[.int .i64 0, .slice none 0 0] 30)).cell? ⟨Y, 0, none⟩ = some (.slice a bs.length cap) := blk_cell hb
  have c1 : (w.alloc (.cells #[.int .i64 0, .slice none 0 0] 30)).cell? ⟨Y, 1, none⟩ = some (.bool true) := blk_cell hb
  have c2 : (w.alloc (.cells #[.int .i64 0, .slice none 0 0] 30)).cell? ⟨Y, 2, none⟩ = some (.int .i64 n) := blk_cell hb
  have HY := Lib.hid hy
  clear hy hb
  go_enter Try.func18, Try.ntmps18
  go_wp2_with fail
  go_quiet (fail)
  go_wp2
  refine bodyPost_ret (v := .tuple #[.agg #[.int .i64 0, .slice none 0 0], .bool false]) (by simp [results, Try.results18, go_sem]) rfl ?_
  have hYw := blk_lt HY.out.cell
  have ht : Touch w ((w.alloc (.cells #[.int .i64 0, .slice none 0 0] 30)).drewN nq) (fun _ => False) := (Touch.alloc w _ _).trans (touch_drewN _ _ _) (fun _ _ h => h)
  exact rtold_of hYw rfl (ht.weaken (fun _ _ h => h.elim)) (Rd.nil _ _) (fun ad h => by cases h) (HY.out.touch ht (fun h => h) (fun _ _ _ h => h)) (fun ad had hl => by
    obtain ⟨g, off, e, hg, _⟩ := HY.out.rd hl
    rw [had] at e; cases e; exact Nat.ne_of_lt hg) (fun ad had _ => ⟨ad, had, rfl⟩) _ _

theorem app1' {w w' : World} {o : Obj} {a1 : Option Addr} {g : Nat} (hg : g = w.heap.size) (ht : Touch (w.alloc o) w' (InA (some ⟨g, 0, none⟩))) (haf : After (w.alloc o) (some ⟨g, 0, none⟩) a1) :
    Touch w w' (fun k => w.heap.size ≤ k) ∧ ∀ ad, a1 = some ad → w.heap.size ≤ ad.block := by
  subst hg
  exact app1 ht haf

theorem src_n {w : World} {a : Option Addr} {bs : List UInt8} (h : Rd w a bs) (n : Nat) (hn : bs.length = n) (c : Nat) : Src Try.prog 1 22 (.slice a n c) bs.length (C8 bs) w := by
  subst hn
  exact src_of h c

/-- The rest of a slice that is read. -/
theorem y_rest {w : World} {a : Option Addr} {cap : Nat} {bs : List UInt8} (h : Rd w a bs) (n : Nat) (hc : bs.length ≤ cap) : Rd w (if cap = n then a else a.map (fun x => x.add n)) (bs.drop n) := by
  have := rd_piece h n bs.length (Nat.le_refl _) cap hc
  rwa [List.take_of_length_le (by simp)] at this

set_option maxRecDepth 10000 in
set_option maxHeartbeats 800000 in
theorem rnext_full (Y : Nat) (a : Option Addr) (bs : List UInt8) (dr : Bool) (w : World) (hy : YAt w Y a bs.length bs true bs.length dr) (hb4 : bs.length ≤ 4096) :
    Calls Try.prog 18 #[.pointer (some ⟨Y, 0, none⟩)] w fun e w' => RTold w Y a 3 bs true [] false bs.length dr e w' := by
  have hb := blk_alloc (o := .cells #[.int .i64 0, .slice none 0 0] 30) hy.cell
  have c0 : (w.alloc (.cells #[.int .i64 0, .slice none 0 0] 30)).cell? ⟨Y, 0, none⟩ = some (.slice a bs.length bs.length) := blk_cell hb
  have c1 : (w.alloc (.cells #[.int .i64 0, .slice none 0 0] 30)).cell? ⟨Y, 1, none⟩ = some (.bool true) := blk_cell hb
  have c2 : (w.alloc (.cells #[.int .i64 0, .slice none 0 0] 30)).cell? ⟨Y, 2, none⟩ = some (.int .i64 bs.length) := blk_cell hb
  have HY := Lib.hid hy
  have HBK := Lib.hid hb
  clear hy hb
  go_enter Try.func18, Try.ntmps18
  go_wp2_with fail
  go_quiet (fail)
  go_wp2_with fail
  go_quiet (fail)
  go_wp2_with fail
  have f0 : (w.alloc (.cells #[.int .i64 0, .slice none 0 0] 30)).frozen? ⟨Y, 0, none⟩ = false := blk_free HBK.out
  have f1 : (w.alloc (.cells #[.int .i64 0, .slice none 0 0] 30)).frozen? ⟨Y, 1, none⟩ = false := blk_free HBK.out
  have hWK : ∀ k, Touch w ((((w.alloc (.cells #[.int .i64 0, .slice none 0 0] 30)).drewN k).setCell ⟨Y, 0, none⟩ (.slice a 0 0)).setCell ⟨Y, 1, none⟩ (.bool false)) (fun k => k = Y) := fun k => by
    have t1 : Touch w ((w.alloc (.cells #[.int .i64 0, .slice none 0 0] 30)).drewN k) (fun k => k = Y) := (Touch.alloc w _ _).trans (touch_drewN _ _ _) (fun _ _ h => h)
    have t2 := t1.trans (Touch.setCell _ ⟨Y, 0, none⟩ (.slice a 0 0) (M := fun k => k = Y) rfl) (fun _ _ h => h)
    exact t2.trans (Touch.setCell _ ⟨Y, 1, none⟩ (.bool false) (M := fun k => k = Y) rfl) (fun _ _ h => h)
  have hRd : ∀ k, Rd ((((w.alloc (.cells #[.int .i64 0, .slice none 0 0] 30)).drewN k).setCell ⟨Y, 0, none⟩ (.slice a 0 0)).setCell ⟨Y, 1, none⟩ (.bool false)) a bs := fun k hl =>
    HY.out.rd.touch (hWK k) (fun ⟨ad, had, hm⟩ => HY.out.ne ad had hl hm) hl
  have hW : ∀ k, ((((w.alloc (.cells #[.int .i64 0, .slice none 0 0] 30)).drewN k).setCell ⟨Y, 0, none⟩ (.slice a 0 0)).setCell ⟨Y, 1, none⟩ (.bool false)).heap.size = w.heap.size + 1 ∧
      YAt ((((w.alloc (.cells #[.int .i64 0, .slice none 0 0] 30)).drewN k).setCell ⟨Y, 0, none⟩ (.slice a 0 0)).setCell ⟨Y, 1, none⟩ (.bool false)) Y a 0 [] false bs.length dr ∧
      ((((w.alloc (.cells #[.int .i64 0, .slice none 0 0] 30)).drewN k).setCell ⟨Y, 0, none⟩ (.slice a 0 0)).setCell ⟨Y, 1, none⟩ (.bool false)).heap[w.heap.size]? = some (.cells #[.int .i64 0, .slice none 0 0] 30 (0, 0)) := fun k => by
    have t0 : Touch w ((w.alloc (.cells #[.int .i64 0, .slice none 0 0] 30)).drewN k) (fun _ => False) := (Touch.alloc w _ _).trans (touch_drewN _ _ _) (fun _ _ h => h)
    have b0 := blk_touch HY.out.cell t0 (fun h => h)
    have b1 := blk_set (o := 0) b0 (.slice a 0 0)
    have b2 := blk_set (o := 1) b1 (.bool false)
    refine ⟨by simp, ⟨by simpa using b2, Rd.nil _ _, by simp, fun ad had h0 => absurd h0 (by omega), fun h => rfl⟩, ?_⟩
    have hYw := blk_lt HY.out.cell
    have t2 := (touch_drewN (w.alloc (.cells #[.int .i64 0, .slice none 0 0] 30)) k (fun k => k = Y)).trans (Touch.setCell _ ⟨Y, 0, none⟩ (.slice a 0 0) (M := fun k => k = Y) rfl) (fun _ _ h => h)
    have t3 := t2.trans (Touch.setCell _ ⟨Y, 1, none⟩ (.bool false) (M := fun k => k = Y) rfl) (fun _ _ h => h)
    exact blk_touch (blk_new w _) t3 (by omega)
  have HWK := Lib.hid hWK
  have HW := Lib.hid hW
  have HRD := Lib.hid hRd
  clear hRd hW hWK
  go_region
  go_wp2_with (at_builtin; refine wpList_append_tl rfl _ _ rfl (some ⟨w.heap.size + 1, 0, none⟩) 0 [] bs _ rfl rfl (tl_lit _ [] _ (by simp)) (src_of ((HRD.out _).alloc (.cells #[] 5)) bs.length) (by simp; omega) ?_)
  intro a3 cap3 w3 htl3 ht3 haf3
  have h3 := app1' (by simp) ht3 haf3
  have hs0 := (HW.out 0).1
  have t3 := (HWK.out _).trans h3.1 (fun i hi h => by simp at h; omega)
  have HR3 := Lib.hid htl3.rd
  have hYw := blk_lt HY.out.cell
  have hlo := h3.2
  have HY3 := Lib.hid ((HW.out _).2.1.touch h3.1 (by rw [(HW.out _).1]; omega) (fun ad had hl hM => by simp at hl))
  have hres := blk_touch (HW.out _).2.2 h3.1 (by rw [(HW.out _).1]; omega)
  have r0 : w3.cell? ⟨w.heap.size, 0, none⟩ = some (.int .i64 0) := blk_cell hres
  have r1 : w3.cell? ⟨w.heap.size, 1, none⟩ = some (.slice none 0 0) := blk_cell hres
  have g0 : w3.frozen? ⟨w.heap.size, 0, none⟩ = false := blk_free hres
  have g1 : w3.frozen? ⟨w.heap.size, 1, none⟩ = false := blk_free hres
  have hres2 := blk_set (o := 1) (blk_set (o := 0) hres (.int .i64 3)) (.slice a3 bs.length cap3)
  have s0 : ((w3.setCell ⟨w.heap.size, 0, none⟩ (.int .i64 3)).setCell ⟨w.heap.size, 1, none⟩ (.slice a3 bs.length cap3)).cell? ⟨w.heap.size, 0, none⟩ = some (.int .i64 3) := by rw [blk_cell hres2]; rfl
  have s1 : ((w3.setCell ⟨w.heap.size, 0, none⟩ (.int .i64 3)).setCell ⟨w.heap.size, 1, none⟩ (.slice a3 bs.length cap3)).cell? ⟨w.heap.size, 1, none⟩ = some (.slice a3 bs.length cap3) := by rw [blk_cell hres2]; rfl
  have S01 := Lib.hid (And.intro s0 s1)
  clear hres hres2 s0 s1
  have HT3 := Lib.hid t3
  have HLO : Hid (∀ ad, a3 = some ad → ad.block ≠ w.heap.size) := fun ad had => by have := hlo ad had; simp at this; omega
  clear htl3 ht3 haf3 h3 t3 hlo hs0
  go_wp2
  refine bodyPost_ret (v := .tuple #[.agg #[.int .i64 3, .slice a3 bs.length cap3], .bool true]) (by simp [results, Try.results18, go_sem, S01.out.1, S01.out.2]) rfl ?_
  exact rtold_of hYw rfl HT3.out HR3.out (fun ad had _ => HLO.out ad had) HY3.out (fun ad had hl => by simp at hl) (fun ad had hl => by simp at hl) _ _

set_option maxRecDepth 10000 in
set_option maxHeartbeats 800000 in
theorem rnext_literal (Y : Nat) (a : Option Addr) (cap : Nat) (bs : List UInt8) (n : Nat) (dr : Bool) (w : World) (hy : YAt w Y a cap bs true n dr) (h1 : n ≤ bs.length) (hb4 : bs.length ≤ 4096) (hcap : ¬ cap = n) :
    Calls Try.prog 18 #[.pointer (some ⟨Y, 0, none⟩)] w fun e w' => RTold w Y a 3 (bs.take n) true (bs.drop n) false n dr e w' := by
  have hb := blk_alloc (o := .cells #[.int .i64 0, .slice none 0 0] 30) hy.cell
  have c0 : (w.alloc (.cells #[.int .i64 0, .slice none 0 0] 30)).cell? ⟨Y, 0, none⟩ = some (.slice a bs.length cap) := blk_cell hb
  have c1 : (w.alloc (.cells #[.int .i64 0, .slice none 0 0] 30)).cell? ⟨Y, 1, none⟩ = some (.bool true) := blk_cell hb
  have c2 : (w.alloc (.cells #[.int .i64 0, .slice none 0 0] 30)).cell? ⟨Y, 2, none⟩ = some (.int .i64 n) := blk_cell hb
  have hge : ¬ ((bs.length : Int) < (n : Int)) := by omega
  have hnc : n ≤ cap := Nat.le_trans h1 hy.le
  have HY := Lib.hid hy
  have HBK := Lib.hid hb
  clear hy hb
  go_enter Try.func18, Try.ntmps18
  go_wp2_with fail
  go_quiet (fail)
  go_wp2_with fail
  go_quiet (fail)
  go_wp2_with fail
  have hcap' : ¬ n = cap := fun h => hcap h.symm
  have f0 : (w.alloc (.cells #[.int .i64 0, .slice none 0 0] 30)).frozen? ⟨Y, 0, none⟩ = false := blk_free HBK.out
  have f1 : (w.alloc (.cells #[.int .i64 0, .slice none 0 0] 30)).frozen? ⟨Y, 1, none⟩ = false := blk_free HBK.out
  have hRd : ∀ k, Rd ((((w.alloc (.cells #[.int .i64 0, .slice none 0 0] 30)).drewN k).setCell ⟨Y, 0, none⟩ (.slice (a.map (fun x => x.add n)) (bs.length - n) (cap - n))).setCell ⟨Y, 1, none⟩ (.bool false)) a bs := fun k hl => by
    have t1 : Touch w ((w.alloc (.cells #[.int .i64 0, .slice none 0 0] 30)).drewN k) (fun k => k = Y) := (Touch.alloc w _ _).trans (touch_drewN _ _ _) (fun _ _ h => h)
    have t2 := t1.trans (Touch.setCell _ ⟨Y, 0, none⟩ (.slice (a.map (fun x => x.add n)) (bs.length - n) (cap - n)) (M := fun k => k = Y) rfl) (fun _ _ h => h)
    have t3 := t2.trans (Touch.setCell _ ⟨Y, 1, none⟩ (.bool false) (M := fun k => k = Y) rfl) (fun _ _ h => h)
    exact HY.out.rd.touch t3 (fun ⟨ad, had, hm⟩ => HY.out.ne ad had (by have := HY.out.le; omega) hm) hl
  have hW : ∀ k, Touch w ((((w.alloc (.cells #[.int .i64 0, .slice none 0 0] 30)).drewN k).setCell ⟨Y, 0, none⟩ (.slice (a.map (fun x => x.add n)) (bs.length - n) (cap - n))).setCell ⟨Y, 1, none⟩ (.bool false)) (fun k => k = Y) ∧
      ((((w.alloc (.cells #[.int .i64 0, .slice none 0 0] 30)).drewN k).setCell ⟨Y, 0, none⟩ (.slice (a.map (fun x => x.add n)) (bs.length - n) (cap - n))).setCell ⟨Y, 1, none⟩ (.bool false)).heap.size = w.heap.size + 1 ∧
      YAt ((((w.alloc (.cells #[.int .i64 0, .slice none 0 0] 30)).drewN k).setCell ⟨Y, 0, none⟩ (.slice (a.map (fun x => x.add n)) (bs.length - n) (cap - n))).setCell ⟨Y, 1, none⟩ (.bool false)) Y (a.map (fun x => x.add n)) (cap - n) (bs.drop n) false n dr := fun k => by
    have t1 : Touch w ((w.alloc (.cells #[.int .i64 0, .slice none 0 0] 30)).drewN k) (fun k => k = Y) := (Touch.alloc w _ _).trans (touch_drewN _ _ _) (fun _ _ h => h)
    have t2 := t1.trans (Touch.setCell _ ⟨Y, 0, none⟩ (.slice (a.map (fun x => x.add n)) (bs.length - n) (cap - n)) (M := fun k => k = Y) rfl) (fun _ _ h => h)
    have t3 := t2.trans (Touch.setCell _ ⟨Y, 1, none⟩ (.bool false) (M := fun k => k = Y) rfl) (fun _ _ h => h)
    have t0 : Touch w ((w.alloc (.cells #[.int .i64 0, .slice none 0 0] 30)).drewN k) (fun _ => False) := (Touch.alloc w _ _).trans (touch_drewN _ _ _) (fun _ _ h => h)
    have b0 := blk_touch HY.out.cell t0 (fun h => h)
    have b1 := blk_set (o := 0) b0 (.slice (a.map (fun x => x.add n)) (bs.length - n) (cap - n))
    have b2 := blk_set (o := 1) b1 (.bool false)
    refine ⟨t3, by simp, ⟨by simpa using b2, ?_, by have := HY.out.le; simp; omega, fun ad had h0 => ?_, fun h => ?_⟩⟩
    · have h := y_rest (hRd k) n HY.out.le
      rwa [if_neg hcap] at h
    · cases ha : a with
      | none => rw [ha] at had; cases had
      | some ad0 =>
        rw [ha] at had
        cases had
        have := HY.out.ne ad0 ha (by omega)
        unfold Addr.add
        split <;> exact this
    · cases ha : a with
      | none => have := HY.out.nil ha; omega
      | some ad0 => rw [ha] at h; cases h
  have hB : ∀ k, ((((w.alloc (.cells #[.int .i64 0, .slice none 0 0] 30)).drewN k).setCell ⟨Y, 0, none⟩ (.slice (a.map (fun x => x.add n)) (bs.length - n) (cap - n))).setCell ⟨Y, 1, none⟩ (.bool false)).heap[w.heap.size]? = some (.cells #[.int .i64 0, .slice none 0 0] 30 (0, 0)) := fun k => by
    have hYw := blk_lt HY.out.cell
    have t2 := (touch_drewN (w.alloc (.cells #[.int .i64 0, .slice none 0 0] 30)) k (fun k => k = Y)).trans (Touch.setCell _ ⟨Y, 0, none⟩ (.slice (a.map (fun x => x.add n)) (bs.length - n) (cap - n)) (M := fun k => k = Y) rfl) (fun _ _ h => h)
    have t3 := t2.trans (Touch.setCell _ ⟨Y, 1, none⟩ (.bool false) (M := fun k => k = Y) rfl) (fun _ _ h => h)
    exact blk_touch (blk_new w _) t3 (by omega)
  have HBL := Lib.hid hB
  clear hB
  have HW := Lib.hid hW
  have HRD := Lib.hid hRd
  clear hRd hW
  have htl : (bs.take n).length = n := by simp; omega
  go_region
  go_wp2_with (at_builtin; refine wpList_append_tl rfl _ _ rfl (some ⟨w.heap.size + 1, 0, none⟩) 0 [] (bs.take n) _ rfl rfl (tl_lit _ [] _ (by simp)) (src_n (((HRD.out _).take n).alloc (.cells #[] 5)) n htl cap) (by rw [htl]; simp; omega) ?_)
  intro a3 cap3 w3 htl3 ht3 haf3
  have h3 := app1' (by simp) ht3 haf3
  have t3 := (HW.out _).1.trans h3.1 (fun i hi h => by have := (HW.out 0).2.1; simp at h; omega)
  have HR3 := Lib.hid htl3.rd
  have hYw := blk_lt HY.out.cell
  have hXs := (HW.out (0 + 0 + 1)).2.1
  have hlo := h3.2
  have hX : ∀ {X : World}, X.heap.size = w.heap.size + 1 → Touch X w3 (fun k => X.heap.size ≤ k) → YAt X Y (a.map (fun x => x.add n)) (cap - n) (bs.drop n) false n dr → YAt w3 Y (a.map (fun x => x.add n)) (cap - n) (bs.drop n) false n dr := fun {X} hs ht hy => hy.touch ht (by omega) (fun ad had hl hM => by
    simp only [List.length_drop] at hl
    obtain ⟨g, off, e, hg, _⟩ := HY.out.rd (by omega)
    rw [e] at had
    simp only [Option.map_some, Option.some.injEq, addr_add] at had
    subst had
    simp only at hM
    omega)
  have HY3 := Lib.hid (hX (HW.out _).2.1 h3.1 (HW.out _).2.2)
  have hres := blk_touch (HBL.out _) h3.1 (by rw [(HW.out _).2.1]; omega)
  have r0 : w3.cell? ⟨w.heap.size, 0, none⟩ = some (.int .i64 0) := blk_cell hres
  have r1 : w3.cell? ⟨w.heap.size, 1, none⟩ = some (.slice none 0 0) := blk_cell hres
  have g0 : w3.frozen? ⟨w.heap.size, 0, none⟩ = false := blk_free hres
  have g1 : w3.frozen? ⟨w.heap.size, 1, none⟩ = false := blk_free hres
  have hres2 := blk_set (o := 1) (blk_set (o := 0) hres (.int .i64 3)) (.slice a3 n cap3)
  have s0 : ((w3.setCell ⟨w.heap.size, 0, none⟩ (.int .i64 3)).setCell ⟨w.heap.size, 1, none⟩ (.slice a3 n cap3)).cell? ⟨w.heap.size, 0, none⟩ = some (.int .i64 3) := by rw [blk_cell hres2]; rfl
  have s1 : ((w3.setCell ⟨w.heap.size, 0, none⟩ (.int .i64 3)).setCell ⟨w.heap.size, 1, none⟩ (.slice a3 n cap3)).cell? ⟨w.heap.size, 1, none⟩ = some (.slice a3 n cap3) := by rw [blk_cell hres2]; rfl
  have S01 := Lib.hid (And.intro s0 s1)
  clear hres hres2 s0 s1
  have HT3 := Lib.hid t3
  have HLO : Hid (∀ ad, a3 = some ad → ad.block ≠ w.heap.size) := fun ad had => by have := hlo ad had; simp at this; omega
  clear htl3 ht3 haf3 h3 t3 hX hlo hXs
  go_wp2
  refine bodyPost_ret (v := .tuple #[.agg #[.int .i64 3, .slice a3 n cap3], .bool true]) (by simp [results, Try.results18, go_sem, S01.out.1, S01.out.2]) rfl ?_
  exact rtold_of hYw htl.symm HT3.out HR3.out (fun ad had _ => HLO.out ad had) HY3.out (fun ad had hl => by
    simp only [List.length_drop] at hl
    obtain ⟨g, off, e, hg, _⟩ := HY.out.rd (by omega)
    rw [e] at had
    simp only [Option.map_some, Option.some.injEq, addr_add] at had
    subst had
    exact Nat.ne_of_lt hg) (fun ad had hl => by
    cases ha : a with
    | none => rw [ha] at had; cases had
    | some ad0 =>
      rw [ha] at had; cases had
      exact ⟨ad0, rfl, by unfold Addr.add; split <;> rfl⟩) _ _

end Go.Proofs.Ytobafefpkkahjaa

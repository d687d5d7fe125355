/- The reference's Lines: Feed and Want. -/
import Derived.Test.YtobafefpkkahjaaOpen
namespace Go.Proofs.Ytobafefpkkahjaa
open Go.RowKit

/-- The reference's Lines at block Y: bytes bs that are read at a; is a literal wanted, of how many bytes; drop. -/
structure YAt (w : World) (Y : Nat) (a : Option Addr) (cap : Nat) (bs : List UInt8) (want : Bool) (n : Int) (dr : Bool) : Prop where
  cell : w.heap[Y]? = some (.cells #[.slice a bs.length cap, .bool want, .int .i64 n, .bool dr] 39 (0, 0))
  rd : Rd w a bs
  le : bs.length ≤ cap
  ne : ∀ ad, a = some ad → 0 < cap → ad.block ≠ Y
  nil : a = none → cap = 0

theorem YAt.touch {w w' : World} {Y : Nat} {a : Option Addr} {cap : Nat} {bs : List UInt8} {want : Bool} {n : Int} {dr : Bool} {M : Nat → Prop} (h : YAt w Y a cap bs want n dr) (ht : Touch w w' M) (hY : ¬ M Y) (ha : ∀ ad, a = some ad → 0 < bs.length → ¬ M ad.block) : YAt w' Y a cap bs want n dr :=
  ⟨blk_touch h.cell ht hY, fun hl => h.rd.touch ht (fun ⟨ad, had, hm⟩ => ha ad had hl hm) hl, h.le, h.ne, h.nil⟩

theorem rwant_ok (Y : Nat) (a : Option Addr) (cap : Nat) (bs : List UInt8) (want : Bool) (n0 : Int) (dr : Bool) (n : Int) (w : World) (hy : YAt w Y a cap bs want n0 dr) (h0 : 0 ≤ n) (h1 : n ≤ 1200) :
    Calls Try.prog 20 #[.pointer (some ⟨Y, 0, none⟩), .int .i64 n] w fun e w' => e = .returned (.int .i64 0) ∧ YAt w' Y a cap bs true n dr ∧ Touch w w' (fun k => k = Y) := by
  have c1 : w.cell? ⟨Y, 1, none⟩ = some (.bool want) := blk_cell hy.cell
  have f1 : w.frozen? ⟨Y, 1, none⟩ = false := blk_free hy.cell
  have hb := blk_set (o := 1) hy.cell (.bool true)
  have c2 : (w.setCell ⟨Y, 1, none⟩ (.bool true)).cell? ⟨Y, 2, none⟩ = some (.int .i64 n0) := blk_cell hb
  have f2 : (w.setCell ⟨Y, 1, none⟩ (.bool true)).frozen? ⟨Y, 2, none⟩ = false := blk_free hb
  have HY := Lib.hid hy
  have HB := Lib.hid hb
  clear hy hb
  go_enter Try.func20, Try.ntmps20
  go_wp2
  go_ret
  have ht : Touch w ((w.setCell ⟨Y, 1, none⟩ (.bool true)).setCell ⟨Y, 2, none⟩ (.int .i64 n)) (fun k => k = Y) :=
    (Touch.setCell w ⟨Y, 1, none⟩ _ (M := fun k => k = Y) rfl).trans (Touch.setCell _ ⟨Y, 2, none⟩ _ (M := fun k => k = Y) rfl) (fun _ _ h => h)
  refine ⟨rfl, ⟨by simpa using blk_set (o := 2) HB.out (.int .i64 n), fun hl => HY.out.rd.touch ht (fun ⟨ad, had, hm⟩ => HY.out.ne ad had (by have := HY.out.le; omega) hm) hl, HY.out.le, HY.out.ne, HY.out.nil⟩, ht⟩

theorem rwant_no (Y : Nat) (n : Int) (w : World) (h : n < 0 ∨ 1200 < n) :
    Calls Try.prog 20 #[.pointer (some ⟨Y, 0, none⟩), .int .i64 n] w fun e w' => e = .returned (.int .i64 1) ∧ w = w' := by
  by_cases h0 : n < 0
  · clear h
    go_enter Try.func20, Try.ntmps20
    go_wp2
    go_ret
    exact ⟨rfl, rfl⟩
  · have h1 : 1200 < n := by omega
    clear h
    go_enter Try.func20, Try.ntmps20
    go_wp2
    go_ret
    exact ⟨rfl, rfl⟩

theorem rfeed_no (Y : Nat) (a : Option Addr) (cap : Nat) (bs : List UInt8) (want : Bool) (n : Int) (dr : Bool) (b : Option Addr) (blen bcap : Nat) (w : World) (hy : YAt w Y a cap bs want n dr) (hb : bs.length ≤ 4096) (hsz : 4096 < bs.length + blen) :
    Calls Try.prog 16 #[.pointer (some ⟨Y, 0, none⟩), .slice b blen bcap] w fun e w' => e = .returned (.int .i64 5) ∧ w = w' := by
  have c0 : w.cell? ⟨Y, 0, none⟩ = some (.slice a bs.length cap) := blk_cell hy.cell
  have hw : IntKind.i64.wrap (4096 - (bs.length : Int)) = 4096 - (bs.length : Int) := IntWalk.i64_in _ (by omega)
  have hlt : (4096 - (bs.length : Int)) < (blen : Int) := by omega
  clear hy
  go_enter Try.func16, Try.ntmps16
  go_wp2
  go_ret
  exact ⟨rfl, rfl⟩

set_option maxHeartbeats 800000 in
theorem rfeed_ok (Y : Nat) (a : Option Addr) (cap : Nat) (bs : List UInt8) (want : Bool) (n : Int) (dr : Bool) (b : Option Addr) (bcap : Nat) (ys : List UInt8) (w : World) (hy : YAt w Y a cap bs want n dr) (hr : Rd w b ys) (hsz : bs.length + ys.length ≤ 4096) :
    Calls Try.prog 16 #[.pointer (some ⟨Y, 0, none⟩), .slice b ys.length bcap] w fun e w' => ∃ a' cap', e = .returned (.int .i64 0) ∧ YAt w' Y a' cap' (bs ++ ys) want n dr ∧ Touch w w' (fun k => k = Y) ∧ (∀ ad, a' = some ad → w.heap.size ≤ ad.block) := by
  have c0 : w.cell? ⟨Y, 0, none⟩ = some (.slice a bs.length cap) := blk_cell hy.cell
  have hw : IntKind.i64.wrap (4096 - (bs.length : Int)) = 4096 - (bs.length : Int) := IntWalk.i64_in _ (by omega)
  have c1 : (w.alloc (.cells #[] 5)).cell? ⟨Y, 0, none⟩ = some (.slice a bs.length cap) := blk_cell (blk_alloc hy.cell)
  have hlt : ((4096 - (bs.length : Int)) < (ys.length : Int)) = False := by simp; omega
  have HY := Lib.hid hy
  have HR := Lib.hid hr
  have HSZ := Lib.hid hsz
  clear hy hr hsz
  go_enter Try.func16, Try.ntmps16
  go_wp2_with (at_builtin; refine wpList_append_tl rfl _ _ rfl (some ⟨w.heap.size, 0, none⟩) 0 [] bs _ rfl rfl (tl_lit w [] _ rfl) (src_of (HY.out.rd.alloc (.cells #[] 5)) cap) (by have := HSZ.out; simp; omega) ?_)
  intro a1 cap1 w1 htl1 ht1 haf1
  have h1 := app1 ht1 haf1
  have H1 := Lib.hid h1
  have HTL1 := Lib.hid htl1
  have HR1 : Hid (Rd w1 b ys) := HR.out.touch (h1.1.weaken (M' := fun _ => False) (fun i hi h => by omega)) (fun ⟨_, _, h⟩ => h)
  clear htl1 ht1 haf1 h1 c0 c1
  go_wp2_with (at_builtin; refine wpList_append_tl rfl _ _ rfl a1 cap1 bs ys _ rfl rfl HTL1.out (src_of HR1.out bcap) (by have := HSZ.out; omega) ?_)
  intro a2 cap2 w2 htl2 ht2 haf2
  have h2 := app3 H1.out.1 H1.out.2 ht2 haf2
  have hYlt := blk_lt HY.out.cell
  have hcell : w2.heap[Y]? = _ := blk_touch HY.out.cell h2.1 (by omega)
  have c0 : w2.cell? ⟨Y, 0, none⟩ = some (.slice a bs.length cap) := blk_cell hcell
  have f0 : w2.frozen? ⟨Y, 0, none⟩ = false := blk_free hcell
  have H2 := Lib.hid h2
  have HTL2 := Lib.hid htl2
  have HC := Lib.hid hcell
  have HYL := Lib.hid hYlt
  clear htl2 ht2 haf2 h2 hcell hYlt H1 HTL1 HR1
  go_wp2_with fail
  go_ret
  have hset := Touch.setCell w2 ⟨Y, 0, none⟩ (.slice a2 (bs.length + ys.length) cap2) (M := fun k => k = Y) rfl
  have hne : ∀ ad, a2 = some ad → ad.block ≠ Y := fun ad had => by have := H2.out.2 ad had; have := HYL.out; omega
  refine ⟨a2, cap2, rfl, ⟨by simpa using blk_set (o := 0) HC.out (.slice a2 (bs.length + ys.length) cap2), HTL2.out.rd.touch hset (fun ⟨ad, had, hm⟩ => hne ad had hm), HTL2.out.1, fun ad had _ => hne ad had, HTL2.out.2.1⟩,
    (H2.out.1.weaken (M' := fun k => k = Y) (fun i hi h => by omega)).trans hset (fun _ _ h => h), H2.out.2⟩

end Go.Proofs.Ytobafefpkkahjaa

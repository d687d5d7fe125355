/- The contract of Next. -/
import Derived.Test.YtobafefpkkahjaaLineA
import Derived.WalkMore
import Derived.ScopeJumps
namespace Go.Proofs.Ytobafefpkkahjaa
open Go.RowKit

/-- What Next hands back: the event and whether there is one; the Lines behind it. -/
def Told (w : World) (L : Nat) (a : Option Addr) (kind : Int) (data : List UInt8) (ok : Bool) (bs' : List UInt8) (want' : Int) (dr' : Bool) (e : Ending) (w' : World) : Prop :=
  ∃ r rc a' cap', e = .returned (.tuple #[.agg #[.int .i64 kind, .slice r data.length rc], .bool ok]) ∧ Rd w' r data ∧ After w none r ∧ XAt w' L a' cap' bs' want' dr' ∧ Touch w w' (Foot L a) ∧ Within a a'

theorem told_of {w w0 w1 : World} {L : Nat} {a a' r : Option Addr} {cap cap' rc n : Nat} {bs bs' data : List UInt8} {want want' : Int} {dr dr' : Bool} (hx : XAt w L a cap bs want dr) (hsz : w.heap.size < w0.heap.size)
    (ht0 : Touch w w0 (Foot L a)) (ht : Touch w0 w1 (Foot L a)) (hr : Rd w1 r data) (hra : After w0 none r) (hx1 : XAt w1 L a' cap' bs' want' dr') (haf : Within a a') (k : Int) (hn : n = data.length) (v0 v1 : Value) (ok : Bool) :
    Told w L a k data ok bs' want' dr' (.returned (.tuple #[.agg #[.int .i64 k, .slice r n rc], .bool ok])) ((w1.setCell ⟨w.heap.size, 0, none⟩ v0).setCell ⟨w.heap.size, 1, none⟩ v1) := by
  subst hn
  have t1 : Touch w1 ((w1.setCell ⟨w.heap.size, 0, none⟩ v0).setCell ⟨w.heap.size, 1, none⟩ v1) (fun k => k = w.heap.size) :=
    (Touch.setCell w1 ⟨w.heap.size, 0, none⟩ v0 (M := fun k => k = w.heap.size) rfl).trans (Touch.setCell _ ⟨w.heap.size, 1, none⟩ v1 (M := fun k => k = w.heap.size) rfl) (fun _ _ h => h)
  refine ⟨r, rc, a', cap', rfl, hr.touch t1 ?_, ?_, hx1.touch t1 ?_, (ht0.trans ht (fun _ _ h => h)).trans (t1.weaken (M' := fun k => w.heap.size ≤ k) (fun _ _ h => Nat.le_of_eq h.symm)) (fun i hi h => by omega), ?_⟩
  · rintro ⟨ad, had, hm⟩
    rcases hra ad had with ⟨_, h, _⟩ | h
    · cases h
    · omega
  · intro ad had
    rcases hra ad had with ⟨_, h, _⟩ | h
    · cases h
    · exact .inr (by omega)
  · rintro k (rfl | ⟨ad, had, rfl⟩) hm
    · have := blk_lt hx.cell; omega
    · have := hx.inA_lt _ (.inr (haf ad had)); omega
  · exact haf

theorem next_short (L : Nat) (a : Option Addr) (cap : Nat) (bs : List UInt8) (want : Int) (dr : Bool) (w : World) (hx : XAt w L a cap bs want dr) (h0 : 0 ≤ want) (h1 : (bs.length : Int) < want) :
    Calls Try.prog 17 #[.pointer (some ⟨L, 0, none⟩)] w fun e w' => Told w L a 0 [] false bs want dr e w' := by
  have hL := blk_lt hx.cell
  have c0 : w.cell? ⟨L, 0, none⟩ = some (.slice a bs.length cap) := blk_cell hx.cell
  have c1 : w.cell? ⟨L, 1, none⟩ = some (.int .i64 want) := blk_cell hx.cell
  have HX := Lib.hid hx
  clear hx
  have k0 : (want != -1) = true := by rw [bne_iff_ne]; omega
  go_enter Try.func17, Try.ntmps17
  go_wp2
  go_step3
  go_wp2
  rw [Exit.noGoto_ret]
  refine bodyPost_ret (v := .tuple #[.agg #[.int .i64 0, .slice none 0 0], .bool false]) (by simp [results, Try.results17, go_sem]) rfl ?_
  exact ⟨none, 0, a, cap, rfl, Rd.nil _ _, After.none _ _, HX.out.touch (Touch.alloc w _ (fun _ => False)) (fun _ _ h => h), Touch.alloc w _ _, Within.same _⟩

theorem next_literal (L : Nat) (a : Option Addr) (cap : Nat) (bs : List UInt8) (n : Nat) (dr : Bool) (w : World) (hx : XAt w L a cap bs (n : Int) dr) (h1 : n ≤ bs.length) (hb : bs.length ≤ 1000000) :
    Calls Try.prog 17 #[.pointer (some ⟨L, 0, none⟩)] w fun e w' => Told w L a 3 (bs.take n) true (bs.drop n) (-1) dr e w' := by
  have hL := blk_lt hx.cell
  have c0 : w.cell? ⟨L, 0, none⟩ = some (.slice a bs.length cap) := blk_cell hx.cell
  have c1 : w.cell? ⟨L, 1, none⟩ = some (.int .i64 n) := blk_cell hx.cell
  have f1 : w.frozen? ⟨L, 1, none⟩ = false := blk_free hx.cell
  have HX := Lib.hid hx
  clear hx
  have k0 : ((n : Int) != -1) = true := by rw [bne_iff_ne]; omega
  go_enter Try.func17, Try.ntmps17
  go_wp2
  go_step3
  go_wp2_with fail
  have HX1 := Lib.hid ((HX.out.store1 (-1)).alloc (.cells #[.int .i64 0, .slice none 0 0] 30))
  have HT0 : Hid (Touch w ((w.setCell ⟨L, 1, none⟩ (.int .i64 (-1))).alloc (.cells #[.int .i64 0, .slice none 0 0] 30)) (Foot L a)) :=
    (Touch.setCell w ⟨L, 1, none⟩ _ (M := Foot L a) (.inl rfl)).trans (Touch.alloc _ _ (fun _ => False)) (fun _ _ h => h.elim)
  refine (taken_any L a cap bs (-1) dr n _ HX1.out h1 hb).mono ?_
  rintro e w1 ⟨r, rc, a', rfl, -, hr, hra, hx1, ht, haf⟩
  have hnb : ¬ Foot L a w.heap.size := fun h => by have := HX.out.inA_lt _ h; omega
  have hres := blk_touch (blk_new' (w := w.setCell ⟨L, 1, none⟩ (.int .i64 (-1))) (b := w.heap.size) (by simp [World.setCell]) (.cells #[.int .i64 0, .slice none 0 0] 30)) ht hnb
  have d0 : w1.cell? ⟨w.heap.size, 0, none⟩ = some (.int .i64 0) := blk_cell hres
  have d1 : w1.cell? ⟨w.heap.size, 1, none⟩ = some (.slice none 0 0) := blk_cell hres
  have e0 : w1.frozen? ⟨w.heap.size, 0, none⟩ = false := blk_free hres
  have e1 : w1.frozen? ⟨w.heap.size, 1, none⟩ = false := blk_free hres
  have HR := Lib.hid hr
  have HRA := Lib.hid hra
  have HX2 := Lib.hid hx1
  have HT := Lib.hid ht
  have HAF := Lib.hid haf
  have HNB := Lib.hid hnb
  clear hr hra hx1 ht haf hnb hres
  go_wp2_with fail
  rw [Exit.noGoto_ret]
  refine bodyPost_ret (v := .tuple #[.agg #[.int .i64 3, .slice r n rc], .bool true]) (by simp [results, Try.results17, go_sem, d0, d1]) rfl ?_
  exact told_of HX.out (by simp) HT0.out HT.out HR.out HRA.out HX2.out HAF.out 3 (by simp; omega) _ _ true

/-- A line without one 0D at its end. -/
def trim13 (l : List UInt8) : List UInt8 := if Lib.hasSuffix l [13] then l.take (l.length - 1) else l

theorem Rd.bytesIn {w : World} {a : Option Addr} {bs : List UInt8} (h : Rd w a bs) : Lib.BytesIn w a bs.length (N8 bs) := by
  intro hl
  obtain ⟨g, off, e, _, hc⟩ := h hl
  exact ⟨g, off, e, hc⟩

theorem trim_value {w : World} {r : Option Addr} {ds : List UInt8} (h : Rd w r ds) (rc : Nat) : Lib.trimSuffixV r ds.length rc (N8 ds) [13] = .slice r (trim13 ds).length rc ∧ Rd w r (trim13 ds) := by
  have e : Lib.bytesOf [13] = [13] := rfl
  by_cases hs : Lib.hasSuffix ds [13] = true
  · have ht : trim13 ds = ds.take (ds.length - 1) := by unfold trim13; rw [if_pos hs]
    have hne : 0 < ds.length := by
      cases ds with
      | nil => exact absurd hs (by decide)
      | cons _ _ => simp
    rw [ht]
    refine ⟨?_, h.take _⟩
    obtain ⟨g, off, rfl, _⟩ := h hne
    unfold Lib.trimSuffixV Lib.bytesTrimSuffix Lib.sliceTo
    rw [bytesOf_N8, e]
    simp only [if_pos hs, List.length_take, List.length_cons, List.length_nil]
    congr 1
    omega
  · have ht : trim13 ds = ds := by unfold trim13; rw [if_neg hs]
    rw [ht]
    refine ⟨?_, h⟩
    unfold Lib.trimSuffixV
    split
    · unfold Lib.bytesTrimSuffix
      rw [bytesOf_N8, e, if_neg hs]
    · rfl

theorem After.mono {w w' : World} {a b : Option Addr} (h : After w' a b) (hw : w.heap.size ≤ w'.heap.size) : After w a b := fun ad had => (h ad had).imp id (Nat.le_trans hw)

set_option maxHeartbeats 1600000 in
theorem next_line (L : Nat) (a : Option Addr) (cap : Nat) (bs : List UInt8) (dr : Bool) (i : Nat) (w : World) (hx : XAt w L a cap bs (-1) dr) (hi : Lib.indexByte bs 10 = (i : Int)) (hlt : i < bs.length) (hb : bs.length ≤ 1000000) :
    Calls Try.prog 17 #[.pointer (some ⟨L, 0, none⟩)] w fun e w' =>
      Told w L a (if dr || decide (300 < (trim13 (bs.take i)).length) then 2 else 1) (if dr || decide (300 < (trim13 (bs.take i)).length) then [] else trim13 (bs.take i)) true (bs.drop (i + 1)) (-1) false e w' := by
  have hL := blk_lt hx.cell
  have c0 : w.cell? ⟨L, 0, none⟩ = some (.slice a bs.length cap) := blk_cell hx.cell
  have c1 : w.cell? ⟨L, 1, none⟩ = some (.int .i64 (-1)) := blk_cell hx.cell
  have hrd := hx.tl.rd
  obtain ⟨g, off, rfl, hg, hc⟩ := hrd (by omega)
  have HX := Lib.hid hx
  have HI := Lib.hid hi
  have HC : Hid (∀ j, j < bs.length → w.cell? ((⟨g, off, none⟩ : Addr).add j) = some (.int .u8 ((N8 bs).getD j 0))) := fun j hj => by rw [addr_add]; exact hc j hj
  clear hx hi hrd hc
  go_enter Try.func17, Try.ntmps17
  go_wp2
  go_step3
  go_wp2_with fail
  have HT0 : Hid (Touch w (w.alloc (.cells #[.int .i64 0, .slice none 0 0] 30)) (Foot L (some ⟨g, off, none⟩))) := Touch.alloc _ _ _
  have HX1 := Lib.hid (HX.out.alloc (.cells #[.int .i64 0, .slice none 0 0] 30))
  refine (Try.bytes_IndexByte_at ⟨g, off, none⟩ bs.length cap (N8 bs) 10 _ (by simp) (fun j hj => ?_)).mono ?_
  · rw [World.cell?_alloc_lt _ _ _ (by rw [addr_add]; exact hg)]
    exact HC.out j hj
  rintro e w1 ⟨rfl, hw⟩
  subst hw
  rw [bytesOf_N8]
  rw [show Lib.indexByte bs (10 : Int).toNat.toUInt8 = (i : Int) from HI.out]
  go_wp2_with fail
  rw [show ((i : Int) + 1) = ((i + 1 : Nat) : Int) from by omega]
  refine (taken_any L _ cap bs (-1) dr (i + 1) _ HX1.out (by omega) hb).mono ?_
  rintro e w1 ⟨r, rc, a', rfl, hrc, hr, hra, hx1, ht, haf⟩
  have hnb : ¬ Foot L (some ⟨g, off, none⟩) w.heap.size := fun h => by have := HX.out.inA_lt _ h; omega
  have hres := blk_touch (blk_new w (.cells #[.int .i64 0, .slice none 0 0] 30)) ht hnb
  have hr2 := hr.take i
  rw [List.take_take, Nat.min_eq_left (by omega)] at hr2
  have hlr : (bs.take i).length = i := by simp; omega
  have HT := Lib.hid ht
  have HR2 := Lib.hid hr2
  have HRA := Lib.hid hra
  have HX2 := Lib.hid hx1
  have HAF := Lib.hid haf
  have HRES := Lib.hid hres
  have HLR := Lib.hid hlr
  clear hr hra hx1 ht haf hres hr2 hlr hnb
  go_wp2_with fail
  have HB1 : Hid (Touch w1 (w1.alloc (.cells #[.int .u8 13] 5)) (fun _ => False)) := Touch.alloc _ _ _
  have HR3 := Lib.hid (HR2.out.touch HB1.out (fun ⟨_, _, h⟩ => h))
  have hts := Try.bytes_TrimSuffix_all r (some ⟨w1.heap.size, 0, none⟩) (bs.take i).length rc 1 1 (N8 (bs.take i)) [13] (w1.alloc (.cells #[.int .u8 13] 5)) (by simp) rfl (by rw [HLR.out]; omega) (by rw [HLR.out]; omega) HR3.out.bytesIn
    (fun _ => ⟨_, _, rfl, fun j hj => by obtain rfl : j = 0 := by omega
                                         simp [World.cell?_alloc_at]⟩)
  rw [(trim_value HR3.out rc).1, HLR.out] at hts
  have HR4 := Lib.hid (trim_value HR3.out rc).2
  have HTS := Lib.hid hts
  clear hts
  generalize htx : trim13 (bs.take i) = text at *
  have htl : text.length ≤ 1000000 := by
    rw [← htx]
    unfold trim13
    split
    · simp; omega
    · simp; omega
  have HTX := Lib.hid htx
  clear htx
  refine HTS.out.mono ?_
  rintro e w2 ⟨rfl, hw⟩
  subst hw
  have HX3 := Lib.hid (HX2.out.touch HB1.out (fun _ _ h => h))
  have HRES2 := Lib.hid (blk_touch HRES.out HB1.out (fun h => h))
  have HT1 : Hid (Touch (w.alloc (.cells #[.int .i64 0, .slice none 0 0] 30)) (w1.alloc (.cells #[.int .u8 13] 5)) (Foot L (some ⟨g, off, none⟩))) := HT.out.trans HB1.out (fun _ _ h => h.elim)
  clear HTS
  have HLT : Hid (w1.heap.size < (w1.alloc (.cells #[.int .u8 13] 5)).heap.size) := by show _ < _; simp
  generalize (w1.alloc (.cells #[.int .u8 13] 5)) = w2 at *
  have p2 : w2.cell? ⟨L, 2, none⟩ = some (.bool dr) := blk_cell HX3.out.cell
  have q2 : w2.frozen? ⟨L, 2, none⟩ = false := blk_free HX3.out.cell
  have d0 : w2.cell? ⟨w.heap.size, 0, none⟩ = some (.int .i64 0) := blk_cell HRES2.out
  have d1 : w2.cell? ⟨w.heap.size, 1, none⟩ = some (.slice none 0 0) := blk_cell HRES2.out
  have e0 : w2.frozen? ⟨w.heap.size, 0, none⟩ = false := blk_free HRES2.out
  have e1 : w2.frozen? ⟨w.heap.size, 1, none⟩ = false := blk_free HRES2.out
  have HX4 := Lib.hid (HX3.out.store2 false)
  have HT2 : Hid (Touch (w.alloc (.cells #[.int .i64 0, .slice none 0 0] 30)) (w2.setCell ⟨L, 2, none⟩ (.bool false)) (Foot L (some ⟨g, off, none⟩))) := HT1.out.trans (Touch.setCell w2 ⟨L, 2, none⟩ _ (M := Foot L (some ⟨g, off, none⟩)) (.inl rfl)) (fun _ _ h => h)
  have HR5 : Hid (Rd (w2.setCell ⟨L, 2, none⟩ (.bool false)) r text) := HR4.out.touch (Touch.setCell w2 ⟨L, 2, none⟩ _ (M := fun k => k = L) rfl) (fun ⟨ad, had, hm⟩ => by
    rcases HRA.out ad had with ⟨_, h, _⟩ | h
    · cases h
    · simp at h; omega)
  clear HC HT0 HX1 HT HR2 HX2 HRES HLR HB1 HR3 HR4 HX3 HRES2 HT1 HLT
  have D0 : Hid ((w2.setCell ⟨L, 2, none⟩ (.bool false)).cell? ⟨w.heap.size, 0, none⟩ = some (.int .i64 0)) := (World.cell?_setCell_other _ _ _ _ (by simp)).trans d0
  have D1 : Hid ((w2.setCell ⟨L, 2, none⟩ (.bool false)).cell? ⟨w.heap.size, 1, none⟩ = some (.slice none 0 0)) := (World.cell?_setCell_other _ _ _ _ (by simp)).trans d1
  have hlong : Hid (∀ e w', dr = true ∨ 300 < text.length → Told w L (some ⟨g, off, none⟩) 2 [] true (bs.drop (i + 1)) (-1) false e w' →
      Told w L (some ⟨g, off, none⟩) (if dr || decide (300 < text.length) then 2 else 1) (if dr || decide (300 < text.length) then [] else text) true (bs.drop (i + 1)) (-1) false e w') := fun e w' h ht => by
    have : (dr || decide (300 < text.length)) = true := by rcases h with h | h <;> simp [h]
    rw [this]
    exact ht
  have hfine : Hid (∀ e w', dr = false → ¬ 300 < text.length → Told w L (some ⟨g, off, none⟩) 1 text true (bs.drop (i + 1)) (-1) false e w' →
      Told w L (some ⟨g, off, none⟩) (if dr || decide (300 < text.length) then 2 else 1) (if dr || decide (300 < text.length) then [] else text) true (bs.drop (i + 1)) (-1) false e w') := fun e w' h h2 ht => by
    have : (dr || decide (300 < text.length)) = false := by simp [h, h2]
    rw [this]
    exact ht
  cases dr with
  | true =>
    go_wp2_with fail
    rw [Exit.noGoto_ret]
    generalize w2.setCell ⟨L, 2, none⟩ (.bool false) = w4 at *
    have r0 := D0.out
    have r1 := D1.out
    refine bodyPost_ret (v := .tuple #[.agg #[.int .i64 2, .slice none 0 0], .bool true]) (by simp [results, Try.results17, go_sem, r0, r1]) rfl ?_
    rw [HTX.out]
    refine hlong.out _ _ (by simp) ?_
    exact told_of HX.out (by simp) (Touch.alloc _ _ _) HT2.out (Rd.nil _ _) (After.none _ _) HX4.out HAF.out 2 rfl _ _ true
  | false =>
    by_cases h3 : 300 < text.length
    · go_wp2_with fail
      rw [Exit.noGoto_ret]
      generalize w2.setCell ⟨L, 2, none⟩ (.bool false) = w4 at *
      have r0 := D0.out
      have r1 := D1.out
      refine bodyPost_ret (v := .tuple #[.agg #[.int .i64 2, .slice none 0 0], .bool true]) (by simp [results, Try.results17, go_sem, r0, r1]) rfl ?_
      rw [HTX.out]
      refine hlong.out _ _ (.inr h3) ?_
      exact told_of HX.out (by simp) (Touch.alloc _ _ _) HT2.out (Rd.nil _ _) (After.none _ _) HX4.out HAF.out 2 rfl _ _ true
    · go_wp2_with fail
      rw [Exit.noGoto_ret]
      generalize w2.setCell ⟨L, 2, none⟩ (.bool false) = w4 at *
      have r0 := D0.out
      have r1 := D1.out
      refine bodyPost_ret (v := .tuple #[.agg #[.int .i64 1, .slice r text.length rc], .bool true]) (by simp [results, Try.results17, go_sem, r0, r1]) rfl ?_
      rw [HTX.out]
      refine hfine.out _ _ (by simp) h3 ?_
      exact told_of HX.out (by simp) (Touch.alloc _ _ _) HT2.out HR5.out HRA.out HX4.out HAF.out 1 rfl _ _ true

/-- bytes.IndexByte at the buffer. -/
theorem index_any {w : World} {L : Nat} {a : Option Addr} {cap : Nat} {bs : List UInt8} {want : Int} {dr : Bool} (hx : XAt w L a cap bs want dr) :
    Calls Try.prog 23 #[.slice a bs.length cap, .int .u8 10] w fun e w' => e = .returned (.int .i64 (Lib.indexByte bs 10)) ∧ w = w' := by
  cases a with
  | none =>
    obtain rfl : cap = 0 := hx.tl.2.1 rfl
    have hb0 : bs = [] := List.eq_nil_of_length_eq_zero (by have := hx.tl.1; omega)
    subst hb0
    exact (Try.bytes_IndexByte_nil 10 w).mono fun e w' ⟨h1, h2⟩ => ⟨h1, h2.symm⟩
  | some ad =>
    obtain ⟨g, off, rfl, hg, hc, _⟩ := hx.tl.2.2 ad rfl
    refine (Try.bytes_IndexByte_at ⟨g, off, none⟩ bs.length cap (N8 bs) 10 w (by simp) (fun j hj => by rw [addr_add]; exact hc j hj)).mono ?_
    rintro e w' ⟨rfl, h2⟩
    exact ⟨by rw [bytesOf_N8]; rfl, h2.symm⟩

/-- A scope in which the run jumps forward once: the walk goes on behind the label. -/
theorem wp_scope_forward {P : Program} {a : Act} {w : World} {Q : Exit → Act → World → Prop} {c rest : Code} (l : Nat) (hf : findLabel c l = some rest)
    (first : c.wp P (Exit.jump l (fun a' w' => rest.wp P (Exit.jump l (fun _ _ => False) Q) a' w') Q) a w) : (Code.scope c).wp P Q a w := by
  refine wp_scope_jumps l (fun a' w' => rest.wp P (Exit.jump l (fun _ _ => False) Q) a' w') (fun _ _ => 0) hf first ?_
  intro a w h
  refine Code.wp_mono (fun e a w h => ?_) h
  cases e <;> first | exact h | exact h.2.elim

theorem told_same {w w' : World} {L : Nat} {a : Option Addr} {cap : Nat} {bs : List UInt8} {want : Int} {dr : Bool} (hx : XAt w L a cap bs want dr) (ht : Touch w w' (fun _ => False)) :
    Told w L a 0 [] false bs want dr (.returned (.tuple #[.agg #[.int .i64 0, .slice none 0 0], .bool false])) w' :=
  ⟨none, 0, a, cap, rfl, Rd.nil _ _, After.none _ _, hx.touch ht (fun _ _ h => h), ht.weaken (fun _ _ h => h.elim), Within.same _⟩

set_option maxHeartbeats 1600000 in
theorem next_waits (L : Nat) (a : Option Addr) (cap : Nat) (bs : List UInt8) (dr : Bool) (w : World) (hx : XAt w L a cap bs (-1) dr) (hi : Lib.indexByte bs 10 = -1) (hb : bs.length ≤ 1000000) :
    Calls Try.prog 17 #[.pointer (some ⟨L, 0, none⟩)] w fun e w' =>
      Told w L a 0 [] false (if 301 < bs.length then [] else bs) (-1) (if 301 < bs.length then true else dr) e w' := by
  have hL := blk_lt hx.cell
  have c0 : w.cell? ⟨L, 0, none⟩ = some (.slice a bs.length cap) := blk_cell hx.cell
  have c1 : w.cell? ⟨L, 1, none⟩ = some (.int .i64 (-1)) := blk_cell hx.cell
  have c2 : w.cell? ⟨L, 2, none⟩ = some (.bool dr) := blk_cell hx.cell
  have f0 : w.frozen? ⟨L, 0, none⟩ = false := blk_free hx.cell
  have f2 : w.frozen? ⟨L, 2, none⟩ = false := blk_free hx.cell
  have HX := Lib.hid hx
  have HI := Lib.hid hi
  have hshort : Hid (∀ e w', ¬ 301 < bs.length → Told w L a 0 [] false bs (-1) dr e w' → Told w L a 0 [] false (if 301 < bs.length then [] else bs) (-1) (if 301 < bs.length then true else dr) e w') := fun e w' h ht => by rw [if_neg h, if_neg h]; exact ht
  have hlong : Hid (∀ e w', 301 < bs.length → Told w L a 0 [] false [] (-1) true e w' → Told w L a 0 [] false (if 301 < bs.length then [] else bs) (-1) (if 301 < bs.length then true else dr) e w') := fun e w' h ht => by rw [if_pos h, if_pos h]; exact ht
  clear hx hi
  by_cases h3 : 301 < bs.length
  · go_enter Try.func17, Try.ntmps17
    go_wp2
    refine wp_scope_forward 0 rfl ?_
    go_wp2_with fail
    refine (index_any (HX.out.alloc (.cells #[.int .i64 0, .slice none 0 0] 30))).mono ?_
    rintro e w1 ⟨rfl, rfl⟩
    rw [HI.out]
    go_wp2_with fail
    go_step3
    refine ⟨rfl, ?_⟩
    go_wp2
    simp only [Exit.jump]
    refine bodyPost_ret (v := .tuple #[.agg #[.int .i64 0, .slice none 0 0], .bool false]) (by simp [results, Try.results17, go_sem]) rfl ?_
    refine hlong.out _ _ h3 ?_
    have x1 := ((HX.out.store0 (bs' := []) (Tl.nil w) (fun _ h => by cases h)).store2 true).alloc (.cells #[.int .i64 0, .slice none 0 0] 30)
    have t1 : Touch w (((w.setCell ⟨L, 0, none⟩ (.slice none 0 0)).setCell ⟨L, 2, none⟩ (.bool true)).alloc (.cells #[.int .i64 0, .slice none 0 0] 30)) (Foot L a) :=
      ((Touch.setCell w ⟨L, 0, none⟩ _ (M := Foot L a) (.inl rfl)).trans (Touch.setCell _ ⟨L, 2, none⟩ _ (M := Foot L a) (.inl rfl)) (fun _ _ h => h)).trans (Touch.alloc _ _ (Foot L a)) (fun _ _ h => h)
    exact ⟨none, 0, none, 0, rfl, Rd.nil _ _, After.none _ _, x1, t1, Within.none _⟩
  · go_enter Try.func17, Try.ntmps17
    go_wp2
    refine wp_scope_forward 0 rfl ?_
    go_wp2_with fail
    refine (index_any (HX.out.alloc (.cells #[.int .i64 0, .slice none 0 0] 30))).mono ?_
    rintro e w1 ⟨rfl, rfl⟩
    rw [HI.out]
    go_wp2_with fail
    go_step3
    refine ⟨rfl, ?_⟩
    go_wp2
    simp only [Exit.jump]
    refine bodyPost_ret (v := .tuple #[.agg #[.int .i64 0, .slice none 0 0], .bool false]) (by simp [results, Try.results17, go_sem]) rfl ?_
    exact hshort.out _ _ h3 (told_same HX.out (Touch.alloc _ _ _))

theorem next_nil (w : World) : Calls Try.prog 17 #[.pointer none] w fun e w' => e = .returned (.tuple #[.agg #[.int .i64 0, .slice none 0 0], .bool false]) ∧ Below w.heap.size w w' := by
  go_enter Try.func17, Try.ntmps17
  go_wp2
  go_step3
  go_wp2
  rw [Exit.noGoto_ret]
  refine bodyPost_ret (v := .tuple #[.agg #[.int .i64 0, .slice none 0 0], .bool false]) (by simp [results, Try.results17, go_sem]) rfl ?_
  exact ⟨rfl, (Below.refl _ _).alloc (Nat.le_refl _) _⟩

/-! ### All of it -/
/-- What Next tells of the bytes that wait, and what it leaves. -/
structure Step where
  kind : Int
  data : List UInt8
  ok : Bool
  bs : List UInt8
  want : Int
  dr : Bool

def step (bs : List UInt8) (want : Int) (dr : Bool) : Step :=
  if want ≠ -1 then
    if (bs.length : Int) < want then ⟨0, [], false, bs, want, dr⟩ else ⟨3, bs.take want.toNat, true, bs.drop want.toNat, -1, dr⟩
  else if Lib.indexByte bs 10 = -1 then ⟨0, [], false, if 301 < bs.length then [] else bs, -1, if 301 < bs.length then true else dr⟩
  else
    let text := trim13 (bs.take (Lib.indexByte bs 10).toNat)
    ⟨if dr || decide (300 < text.length) then 2 else 1, if dr || decide (300 < text.length) then [] else text, true, bs.drop ((Lib.indexByte bs 10).toNat + 1), -1, false⟩

theorem index_lt : ∀ (bs : List UInt8), Lib.indexByte bs 10 < bs.length
  | [] => by decide
  | b :: l => by
    have := index_lt l
    unfold Lib.indexByte
    simp only [List.length_cons]
    split
    · omega
    · split <;> omega

theorem next_any (L : Nat) (a : Option Addr) (cap : Nat) (bs : List UInt8) (want : Int) (dr : Bool) (w : World) (hx : XAt w L a cap bs want dr) (hw : -1 ≤ want) (hb : bs.length ≤ 1000000) :
    Calls Try.prog 17 #[.pointer (some ⟨L, 0, none⟩)] w fun e w' => Told w L a (step bs want dr).kind (step bs want dr).data (step bs want dr).ok (step bs want dr).bs (step bs want dr).want (step bs want dr).dr e w' := by
  unfold step
  by_cases h0 : want ≠ -1
  · rw [if_pos h0]
    by_cases h1 : (bs.length : Int) < want
    · rw [if_pos h1]
      exact next_short L a cap bs want dr w hx (by omega) h1
    · rw [if_neg h1]
      obtain ⟨n, rfl⟩ : ∃ n : Nat, want = n := ⟨want.toNat, by omega⟩
      exact next_literal L a cap bs n dr w hx (by omega) hb
  · rw [if_neg h0]
    have h0' : want = -1 := by omega
    subst h0'
    by_cases h1 : Lib.indexByte bs 10 = -1
    · rw [if_pos h1]
      exact next_waits L a cap bs dr w hx h1 hb
    · rw [if_neg h1]
      have h2 := Lib.indexByte_ge bs 10
      have h3 := index_lt bs
      obtain ⟨i, hi⟩ : ∃ i : Nat, Lib.indexByte bs 10 = i := ⟨(Lib.indexByte bs 10).toNat, by omega⟩
      rw [hi]
      exact next_line L a cap bs dr i w hx hi (by omega) hb

end Go.Proofs.Ytobafefpkkahjaa

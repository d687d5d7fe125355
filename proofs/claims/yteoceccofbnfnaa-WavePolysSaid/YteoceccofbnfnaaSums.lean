/- The walk of WaveSums. -/
import Derived.Test.YteoceccofbnfnaaTurns
import Derived.Test.YteoceccofbnfnaaPoly
namespace Go.Proofs.Yteoceccofbnfnaa
open Go.RowKit

theorem RowOf.read {w : World} {a : Option Addr} {len : Nat} {zs : List Int} (h : RowOf w a len zs) : 0 < len → ∃ b off, a = some ⟨b, off, none⟩ ∧ ∀ j, j < len → w.cell? ⟨b, off + j, none⟩ = some (.int .i64 (zs[j]?.getD 0)) := fun hl => by
  obtain ⟨b, off, h1, _, h2⟩ := h hl
  exact ⟨b, off, h1, h2⟩

theorem neg_word : floatOfInt .f64 (-1) = 13830554455654793216 := by decide +kernel
theorem R.neg : R 13830554455654793216 (-1) := neg_word ▸ R.nearest (-1) (by decide)

set_option maxHeartbeats 3200000 in
set_option maxRecDepth 100000 in
theorem sums_walk (a : Option Addr) (len cap : Nat) (zs : List Int) (w : World) (ha : RowOf w a len zs) :
    Calls Try.prog 8 #[.slice a len cap] w fun e w' => e = .returned (.bool true) ∧ Below w.heap.size w w' := by
  by_cases hl : (100 : Int) < len
  · go_enter Try.func8, Try.ntmps8
    go_wp2
    go_ret
    exact ⟨rfl, Below.refl _ _⟩
  · have hl2 : len ≤ 200 := by omega
    obtain ⟨b0, b1⟩ := fourth_bd (hs zs len) (hs_bd' zs len) 0 len (by omega)
    obtain ⟨b2, b3⟩ := fourth_bd (hs zs len) (hs_bd' zs len) 1 len (by omega)
    obtain ⟨b4, b5⟩ := fourth_bd (hs zs len) (hs_bd' zs len) 2 len (by omega)
    obtain ⟨b6, b7⟩ := fourth_bd (hs zs len) (hs_bd' zs len) 3 len (by omega)
    have hf1 : Fine 1 0 (hs zs len) len := fine_unit (.inl ⟨rfl, rfl⟩) (hs_bd zs len) (by omega)
    have hf2 : Fine (-1) 0 (hs zs len) len := fine_unit (.inr (.inl ⟨rfl, rfl⟩)) (hs_bd zs len) (by omega)
    have hf3 : Fine 0 (-1) (hs zs len) len := fine_unit (.inr (.inr (.inr ⟨rfl, rfl⟩))) (hs_bd zs len) (by omega)
    have q1 := psW_spec R.one R.zero hf1 len (Nat.le_refl _)
    have q2 := psW_spec R.neg R.zero hf2 len (Nat.le_refl _)
    have q3 := psW_spec R.zero R.neg hf3 len (Nat.le_refl _)
    rw [ps_one] at q1
    rw [ps_neg] at q2
    rw [ps_ni] at q3
    have HF1 := Lib.hid hf1
    have HF2 := Lib.hid hf2
    have HF3 := Lib.hid hf3
    have HA := Lib.hid ha
    clear ha hf1 hf2 hf3
    go_enter Try.func8, Try.ntmps8
    go_wp2_with fail
    refine (held_any a len cap zs w hl2 HA.out).mono ?_
    rintro e w1 ⟨a', cap', rfl, hrow, hbel⟩
    have HR := Lib.hid hrow
    have HB := Lib.hid hbel
    clear hrow hbel
    go_wp2_with fail
    refine (rfourths_any a' len cap' (hs zs len) w1 hl2 HR.out (hs_bd' zs len)).mono ?_
    rintro e w2 ⟨rfl, hbel⟩
    have HB2 := Lib.hid hbel
    clear hbel
    generalize hf0 : fourth (hs zs len) 0 len = f0 at *
    generalize hf1 : fourth (hs zs len) 1 len = f1 at *
    generalize hf2 : fourth (hs zs len) 2 len = f2 at *
    generalize hf3 : fourth (hs zs len) 3 len = f3 at *
    generalize hp1 : psW 4607182418800017408 0 (hs zs len) len = P1 at *
    generalize hp2 : psW 13830554455654793216 0 (hs zs len) len = P2 at *
    generalize hp3 : psW 0 13830554455654793216 (hs zs len) len = P3 at *
    have H0 := Lib.hid hf0
    have H1 := Lib.hid hf1
    have H2 := Lib.hid hf2
    have H3 := Lib.hid hf3
    have HP1 := Lib.hid hp1
    have HP2 := Lib.hid hp2
    have HP3 := Lib.hid hp3
    clear hf0 hf1 hf2 hf3 hp1 hp2 hp3
    obtain ⟨im, him, rim⟩ := R.sub R.zero (R.nearest (f1 - f3) (by omega)) (by omega)
    have HIM := Lib.hid him
    clear him
    have E1 := R.eq q1.1 (R.nearest (f0 + f1 + f2 + f3) (by omega))
    have E2 := R.eq q1.2 R.zero
    have E3 := R.eq q2.1 (R.nearest (f0 - f1 + f2 - f3) (by omega))
    have E4 := R.eq q2.2 R.zero
    have E5 := R.eq q3.1 (R.nearest (f0 - f2) (by omega))
    have E6 := R.eq q3.2 rim
    have e6 : f3 - f1 = 0 - (f1 - f3) := by omega
    simp only [e6, decide_true] at E1 E2 E3 E4 E5 E6
    clear q1 q2 q3 rim e6
    go_wp2_with fail
    have HS0 : Hid (SW w w2.heap.size f0 f1 f2 f3 a' len (hs zs len) (w2.alloc (Obj.cells #[Value.int IntKind.i64 f0, Value.int IntKind.i64 f1, Value.int IntKind.i64 f2, Value.int IntKind.i64 f3] 24)).drew) := by
      refine Lib.hid ⟨?_, ?_, ?_, ?_, Lib.hid ⟨?_, ?_⟩⟩
      · simp [World.cell?_alloc_at]
      · simp [World.cell?_alloc_at]
      · simp [World.cell?_alloc_at]
      · simp [World.cell?_alloc_at]
      · exact (HR.out.below HB2.out (Nat.le_refl _)).below (((Below.refl _ w2).alloc (Nat.le_refl _) _).drew) (Nat.le_refl _)
      · exact ((HB.out.trans (HB2.out.mono HB.out.size)).alloc (by have := HB.out.size; have := HB2.out.size; omega) _).drew
    have g1 : IntKind.i64.wrap (f0 + f1) = f0 + f1 := IntWalk.i64_in _ (by omega)
    have g2 : IntKind.i64.wrap (f0 + f1 + f2) = f0 + f1 + f2 := IntWalk.i64_in _ (by omega)
    have g3 : IntKind.i64.wrap (f0 + f1 + f2 + f3) = f0 + f1 + f2 + f3 := IntWalk.i64_in _ (by omega)
    have g4 : IntKind.i64.wrap (f0 - f1) = f0 - f1 := IntWalk.i64_in _ (by omega)
    have g5 : IntKind.i64.wrap (f0 - f1 + f2) = f0 - f1 + f2 := IntWalk.i64_in _ (by omega)
    have g6 : IntKind.i64.wrap (f0 - f1 + f2 - f3) = f0 - f1 + f2 - f3 := IntWalk.i64_in _ (by omega)
    refine wp_region_plan 0 (SW w w2.heap.size f0 f1 f2 f3 a' len (hs zs len)) (by kernel_rfl) (by kernel_rfl) (by kernel_rfl) HS0.out ?_
    clear HS0 HB HB2 HA HR
    (refine PlanT.take (v := ?_) (by kernel_rfl) (Steady.still (by rfl) ?_) ?_; rotate_left; (focus (rintro wS ⟨c0, c1, c2, c3, -⟩; go_simp; try (with_reducible rfl))); simp only [Act.put, List.setIfInBounds_toArray, List.set_cons_zero, List.set_cons_succ])
    (refine PlanT.take (v := .complex .f64 P1.1 P1.2) (by kernel_rfl) (Steady.calls (f := 19) (args := #[.complex .f64 4607182418800017408 0, .slice a' len cap']) (by rfl) ?_) ?_)
    focus
      intro wS hS
      refine ⟨by go_simp, (poly_any 4607182418800017408 0 1 0 a' len cap' (hs zs len) wS hl2 R.one R.zero HF1.out (hS.2.2.2.2.out.1.read)).mono ?_⟩
      rintro e w' ⟨rfl, rfl⟩
      exact ⟨by rw [HP1.out], hS⟩
    simp only [Act.put, List.setIfInBounds_toArray, List.set_cons_zero, List.set_cons_succ]
    iterate 16 (refine PlanT.take (v := ?_) (by kernel_rfl) (Steady.still (by rfl) ?_) ?_; rotate_left; (focus (rintro wS ⟨c0, c1, c2, c3, -⟩; go_simp; try (with_reducible rfl))); simp only [Act.put, List.setIfInBounds_toArray, List.set_cons_zero, List.set_cons_succ])
    (refine PlanT.take (v := .complex .f64 P2.1 P2.2) (by kernel_rfl) (Steady.calls (f := 19) (args := #[.complex .f64 13830554455654793216 0, .slice a' len cap']) (by rfl) ?_) ?_)
    focus
      intro wS hS
      refine ⟨by go_simp, (poly_any 13830554455654793216 0 (-1) 0 a' len cap' (hs zs len) wS hl2 R.neg R.zero HF2.out (hS.2.2.2.2.out.1.read)).mono ?_⟩
      rintro e w' ⟨rfl, rfl⟩
      exact ⟨by rw [HP2.out], hS⟩
    simp only [Act.put, List.setIfInBounds_toArray, List.set_cons_zero, List.set_cons_succ]
    iterate 17 (refine PlanT.take (v := ?_) (by kernel_rfl) (Steady.still (by rfl) ?_) ?_; rotate_left; (focus (rintro wS ⟨c0, c1, c2, c3, -⟩; go_simp; try (with_reducible rfl))); simp only [Act.put, List.setIfInBounds_toArray, List.set_cons_zero, List.set_cons_succ])
    (refine PlanT.take (v := .complex .f64 P3.1 P3.2) (by kernel_rfl) (Steady.calls (f := 19) (args := #[.complex .f64 0 13830554455654793216, .slice a' len cap']) (by rfl) ?_) ?_)
    focus
      intro wS hS
      refine ⟨by go_simp, (poly_any 0 13830554455654793216 0 (-1) a' len cap' (hs zs len) wS hl2 R.zero R.neg HF3.out (hS.2.2.2.2.out.1.read)).mono ?_⟩
      rintro e w' ⟨rfl, rfl⟩
      exact ⟨by rw [HP3.out], hS⟩
    simp only [Act.put, List.setIfInBounds_toArray, List.set_cons_zero, List.set_cons_succ]
    (refine PlanT.take (v := ?_) (by kernel_rfl) (Steady.still (by rfl) ?_) ?_; rotate_left; (focus (rintro wS ⟨c0, c1, c2, c3, -⟩; go_simp; try (with_reducible rfl))); simp only [Act.put, List.setIfInBounds_toArray, List.set_cons_zero, List.set_cons_succ])
    (refine PlanT.take (v := .complex .f64 (floatOfInt .f64 (f0 - f2)) (floatOfInt .f64 (f1 - f3))) (by kernel_rfl) (Steady.calls (f := 11) (args := #[.slice a' len cap']) (by rfl) ?_) ?_)
    focus
      intro wS hS
      refine ⟨by go_simp, (turn_any a' len cap' (hs zs len) wS (by omega) (hS.2.2.2.2.out.1) (hs_bd' zs len)).mono ?_⟩
      rintro e w' ⟨rfl, hb⟩
      exact ⟨by rw [H0.out, H1.out, H2.out, H3.out], hS.next hb⟩
    simp only [Act.put, List.setIfInBounds_toArray, List.set_cons_zero, List.set_cons_succ]
    (refine PlanT.take (v := .complex .f64 (floatOfInt .f64 (f0 - f2)) im) (by kernel_rfl) (Steady.calls (f := 17) (args := #[.complex .f64 (floatOfInt .f64 (f0 - f2)) (floatOfInt .f64 (f1 - f3))]) (by rfl) ?_) ?_)
    focus
      intro wS hS
      refine ⟨by go_simp, (back_any _ _ im wS HIM.out).mono ?_⟩
      rintro e w' ⟨rfl, rfl⟩
      exact ⟨rfl, hS⟩
    simp only [Act.put, List.setIfInBounds_toArray, List.set_cons_zero, List.set_cons_succ]
    iterate 3 (refine PlanT.take (v := ?_) (by kernel_rfl) (Steady.still (by rfl) ?_) ?_; rotate_left; (focus (rintro wS ⟨c0, c1, c2, c3, -⟩; go_simp; try (with_reducible rfl))); simp only [Act.put, List.setIfInBounds_toArray, List.set_cons_zero, List.set_cons_succ])
    (refine PlanT.take (v := .bool true) (by kernel_rfl) (Steady.calls (f := 13) (args := #[]) (by rfl) ?_) ?_)
    focus
      intro wS hS
      refine ⟨by go_simp, (known_any wS).mono ?_⟩
      rintro e w' ⟨rfl, hb⟩
      exact ⟨rfl, hS.next hb⟩
    simp only [Act.put, List.setIfInBounds_toArray, List.set_cons_zero, List.set_cons_succ]
    iterate 2 (refine PlanT.take (v := ?_) (by kernel_rfl) (Steady.still (by rfl) ?_) ?_; rotate_left; (focus (rintro wS ⟨c0, c1, c2, c3, -⟩; go_simp; try (with_reducible rfl))); simp only [Act.put, List.setIfInBounds_toArray, List.set_cons_zero, List.set_cons_succ])
    refine PlanT.done (by kernel_rfl) ?_
    intro wS hS
    have HE := Lib.hid hS.2.2.2.2.out.2
    clear hS E1 E2 E3 E4 E5 E6 g1 g2 g3 g4 g5 g6
    go_wp2
    go_ret
    exact ⟨rfl, HE.out⟩

end Go.Proofs.Yteoceccofbnfnaa

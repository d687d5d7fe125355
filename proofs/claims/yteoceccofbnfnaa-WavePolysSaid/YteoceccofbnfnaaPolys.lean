/- The walk of WavePolys. -/
import Derived.Test.YteoceccofbnfnaaSums
import Derived.Test.YteoceccofbnfnaaMuls
namespace Go.Proofs.Yteoceccofbnfnaa
open Go.RowKit

/-- The law's 'at', boxed, and the held numbers. -/
def SP (w : World) (B : Nat) (p q : Int) (a : Option Addr) (len : Nat) (zs : List Int) (w' : World) : Prop :=
  w'.cell? ⟨B, 0, none⟩ = some (.int .i64 p) ∧ w'.cell? ⟨B, 1, none⟩ = some (.int .i64 q) ∧ Hid (RowOf w' a len zs ∧ Below w.heap.size w w')

theorem SP.next {w w1 w2 : World} {B : Nat} {p q : Int} {a : Option Addr} {len : Nat} {zs : List Int} (h : SP w B p q a len zs w1) (hb : Below w1.heap.size w1 w2) : SP w B p q a len zs w2 := by
  obtain ⟨h0, h1, h4⟩ := h
  have hlt : B < w1.heap.size := World.block_lt_of_cell? w1 _ h0
  exact ⟨(hb.cell (p := ⟨B, 0, none⟩) hlt).trans h0, (hb.cell (p := ⟨B, 1, none⟩) hlt).trans h1, Lib.hid ⟨h4.out.1.below hb (Nat.le_refl _), h4.out.2.trans (hb.mono h4.out.2.size)⟩⟩

set_option maxHeartbeats 3200000 in
set_option maxRecDepth 100000 in
theorem polys_walk (p q : Int) (a : Option Addr) (len cap : Nat) (zs : List Int) (w : World) (ha : RowOf w a len zs) :
    Calls Try.prog 7 #[.agg #[.int .i64 p, .int .i64 q], .slice a len cap] w fun e w' => e = .returned (.bool true) ∧ Below w.heap.size w w' := by
  by_cases hl : (12 : Int) < len
  · clear ha
    go_enter Try.func7, Try.ntmps7
    go_wp2
    go_ret
    exact ⟨rfl, (Below.refl _ _).alloc (Nat.le_refl _) _⟩
  · have hl1 : len ≤ 12 := by omega
    have hl2 : len ≤ 200 := by omega
    have bp := tmod_bd p 4 (by decide)
    have bq := tmod_bd q 4 (by decide)
    have HA := Lib.hid ha
    clear ha
    go_enter Try.func7, Try.ntmps7
    go_wp2_with fail
    generalize p.tmod 4 = P at *
    generalize q.tmod 4 = Q at *
    have ap : P.natAbs ≤ 3 := by omega
    have aq : Q.natAbs ≤ 3 := by omega
    have HB0 : Hid (Below w.heap.size w (w.alloc (.cells #[.int .i64 P, .int .i64 Q] 34))) := (Below.refl _ _).alloc (Nat.le_refl _) _
    have HC0 : Hid ((w.alloc (.cells #[.int .i64 P, .int .i64 Q] 34)).cell? ⟨w.heap.size, 0, none⟩ = some (.int .i64 P) ∧ (w.alloc (.cells #[.int .i64 P, .int .i64 Q] 34)).cell? ⟨w.heap.size, 1, none⟩ = some (.int .i64 Q)) := by
      constructor <;> simp [World.cell?_alloc_at]
    refine (held_any a len cap zs _ hl2 (HA.out.below HB0.out (Nat.le_refl _))).mono ?_
    rintro e w1 ⟨a', cap', rfl, hrow, hbel⟩
    have HS0 : Hid (SP w w.heap.size P Q a' len (hs zs len) w1.drew) := by
      have hlt : w.heap.size < (w.alloc (.cells #[.int .i64 P, .int .i64 Q] 34)).heap.size := by simp
      refine Lib.hid ⟨?_, ?_, Lib.hid ⟨?_, ?_⟩⟩
      · exact ((hbel.drew).cell (p := ⟨w.heap.size, 0, none⟩) hlt).trans HC0.out.1
      · exact ((hbel.drew).cell (p := ⟨w.heap.size, 1, none⟩) hlt).trans HC0.out.2
      · exact hrow.below ((Below.refl _ w1).drew) (Nat.le_refl _)
      · exact (HB0.out.trans (hbel.mono HB0.out.size)).drew
    clear hrow hbel HB0 HC0 HA
    go_wp2_with fail
    obtain ⟨b0, b1⟩ := fourth_bd (hs zs len) (hs_bd' zs len) 0 len (by omega)
    obtain ⟨b2, b3⟩ := fourth_bd (hs zs len) (hs_bd' zs len) 1 len (by omega)
    obtain ⟨b4, b5⟩ := fourth_bd (hs zs len) (hs_bd' zs len) 2 len (by omega)
    obtain ⟨b6, b7⟩ := fourth_bd (hs zs len) (hs_bd' zs len) 3 len (by omega)
    have hf1 : Fine P Q (hs zs len) len := fine_small ap aq (hs_bd zs len) hl1
    have hf2 : Fine 0 1 (hs zs len) len := fine_unit (.inr (.inr (.inl ⟨rfl, rfl⟩))) (hs_bd zs len) (by omega)
    have rp := R.nearest P (by omega)
    have rq := R.nearest Q (by omega)
    have q1 := psW_spec rp rq hf1 len (Nat.le_refl _)
    have q2 := psW_spec R.zero R.one hf2 len (Nat.le_refl _)
    rw [ps_i] at q2
    have hb := hf1.2.2.2.2 len (Nat.le_refl _)
    have HF1 := Lib.hid hf1
    have HF2 := Lib.hid hf2
    have HRP := Lib.hid rp
    have HRQ := Lib.hid rq
    clear hf1 hf2 rp rq
    generalize hf0 : fourth (hs zs len) 0 len = f0 at *
    generalize hf1 : fourth (hs zs len) 1 len = f1 at *
    generalize hf2 : fourth (hs zs len) 2 len = f2 at *
    generalize hf3 : fourth (hs zs len) 3 len = f3 at *
    generalize hp1 : psW (floatOfInt .f64 P) (floatOfInt .f64 Q) (hs zs len) len = P1 at *
    generalize hp2 : psW 0 4607182418800017408 (hs zs len) len = P2 at *
    obtain ⟨x, y, hxy⟩ : ∃ x y, ps P Q (hs zs len) len = (x, y) := ⟨_, _, rfl⟩
    have HX : Hid (Value.agg #[.int .i64 (ps P Q (hs zs len) len).1, .int .i64 (ps P Q (hs zs len) len).2] = .agg #[.int .i64 x, .int .i64 y]) := by rw [hxy]; rfl
    rw [hxy] at q1 hb
    have H0 := Lib.hid hf0
    have H1 := Lib.hid hf1
    have H2 := Lib.hid hf2
    have H3 := Lib.hid hf3
    have HP1 := Lib.hid hp1
    have HP2 := Lib.hid hp2
    have E1 := R.eq q1.1 (R.nearest x hb.1)
    have E2 := R.eq q1.2 (R.nearest y hb.2)
    have E3 := R.eq q2.1 (R.nearest (f0 - f2) (by omega))
    have E4 := R.eq q2.2 (R.nearest (f1 - f3) (by omega))
    rw [decide_eq_true rfl] at E1 E2 E3 E4
    clear hf0 hf1 hf2 hf3 hp1 hp2 hxy q1 q2 hb bp bq
    refine wp_region_plan 0 (SP w w.heap.size P Q a' len (hs zs len)) (by kernel_rfl) (by kernel_rfl) (by kernel_rfl) HS0.out ?_
    clear HS0
    (refine PlanT.take (v := ?_) (by kernel_rfl) (Steady.still (by rfl) ?_) ?_; rotate_left; (focus (rintro wS ⟨c0, c1, -⟩; go_simp; try (with_reducible rfl))); simp only [Act.put, List.setIfInBounds_toArray, List.set_cons_zero, List.set_cons_succ])
    (refine PlanT.take (v := .complex .f64 (floatOfInt .f64 P) (floatOfInt .f64 Q)) (by kernel_rfl) (Steady.calls (f := 15) (args := #[.agg #[.int .i64 P, .int .i64 Q]]) (by rfl) ?_) ?_)
    focus
      intro wS hS
      refine ⟨by go_simp, (gauss_any P Q wS).mono ?_⟩
      rintro e w' ⟨rfl, hb⟩
      exact ⟨rfl, hS.next hb⟩
    simp only [Act.put, List.setIfInBounds_toArray, List.set_cons_zero, List.set_cons_succ]
    (refine PlanT.take (v := ?_) (by kernel_rfl) (Steady.still (by rfl) ?_) ?_; rotate_left; (focus (rintro wS ⟨c0, c1, -⟩; go_simp; try (with_reducible rfl))); simp only [Act.put, List.setIfInBounds_toArray, List.set_cons_zero, List.set_cons_succ])
    (refine PlanT.take (v := .complex .f64 P1.1 P1.2) (by kernel_rfl) (Steady.calls (f := 19) (args := #[.complex .f64 (floatOfInt .f64 P) (floatOfInt .f64 Q), .slice a' len cap']) (by rfl) ?_) ?_)
    focus
      intro wS hS
      refine ⟨by go_simp, (poly_any _ _ P Q a' len cap' (hs zs len) wS hl2 HRP.out HRQ.out HF1.out (hS.2.2.out.1.read)).mono ?_⟩
      rintro e w' ⟨rfl, rfl⟩
      exact ⟨by rw [HP1.out], hS⟩
    simp only [Act.put, List.setIfInBounds_toArray, List.set_cons_zero, List.set_cons_succ]
    iterate 2 (refine PlanT.take (v := ?_) (by kernel_rfl) (Steady.still (by rfl) ?_) ?_; rotate_left; (focus (rintro wS ⟨c0, c1, -⟩; go_simp; try (with_reducible rfl))); simp only [Act.put, List.setIfInBounds_toArray, List.set_cons_zero, List.set_cons_succ])
    (refine PlanT.take (v := .agg #[.int .i64 x, .int .i64 y]) (by kernel_rfl) (Steady.calls (f := 20) (args := #[.agg #[.int .i64 P, .int .i64 Q], .slice a' len cap']) (by rfl) ?_) ?_)
    focus
      intro wS hS
      refine ⟨by go_simp, (rpoly_any P Q a' len cap' (hs zs len) wS hl2 HF1.out.1 HF1.out.2.1 hS.2.2.out.1 HF1.out.2.2.1 HF1.out.2.2.2.1 HF1.out.2.2.2.2).mono ?_⟩
      rintro e w' ⟨rfl, hb⟩
      exact ⟨by rw [HX.out], hS.next hb⟩
    simp only [Act.put, List.setIfInBounds_toArray, List.set_cons_zero, List.set_cons_succ]
    (refine PlanT.take (v := .complex .f64 (floatOfInt .f64 x) (floatOfInt .f64 y)) (by kernel_rfl) (Steady.calls (f := 15) (args := #[.agg #[.int .i64 x, .int .i64 y]]) (by rfl) ?_) ?_)
    focus
      intro wS hS
      refine ⟨by go_simp, (gauss_any x y wS).mono ?_⟩
      rintro e w' ⟨rfl, hb⟩
      exact ⟨rfl, hS.next hb⟩
    simp only [Act.put, List.setIfInBounds_toArray, List.set_cons_zero, List.set_cons_succ]
    iterate 3 (refine PlanT.take (v := ?_) (by kernel_rfl) (Steady.still (by rfl) ?_) ?_; rotate_left; (focus (rintro wS ⟨c0, c1, -⟩; go_simp; try (with_reducible rfl))); simp only [Act.put, List.setIfInBounds_toArray, List.set_cons_zero, List.set_cons_succ])
    (refine PlanT.take (v := .complex .f64 P2.1 P2.2) (by kernel_rfl) (Steady.calls (f := 19) (args := #[.complex .f64 0 4607182418800017408, .slice a' len cap']) (by rfl) ?_) ?_)
    focus
      intro wS hS
      refine ⟨by go_simp, (poly_any _ _ 0 1 a' len cap' (hs zs len) wS hl2 R.zero R.one HF2.out (hS.2.2.out.1.read)).mono ?_⟩
      rintro e w' ⟨rfl, rfl⟩
      exact ⟨by rw [HP2.out], hS⟩
    simp only [Act.put, List.setIfInBounds_toArray, List.set_cons_zero, List.set_cons_succ]
    (refine PlanT.take (v := ?_) (by kernel_rfl) (Steady.still (by rfl) ?_) ?_; rotate_left; (focus (rintro wS ⟨c0, c1, -⟩; go_simp; try (with_reducible rfl))); simp only [Act.put, List.setIfInBounds_toArray, List.set_cons_zero, List.set_cons_succ])
    (refine PlanT.take (v := .complex .f64 (floatOfInt .f64 (f0 - f2)) (floatOfInt .f64 (f1 - f3))) (by kernel_rfl) (Steady.calls (f := 11) (args := #[.slice a' len cap']) (by rfl) ?_) ?_)
    focus
      intro wS hS
      refine ⟨by go_simp, (turn_any a' len cap' (hs zs len) wS hl2 (hS.2.2.out.1) (hs_bd' zs len)).mono ?_⟩
      rintro e w' ⟨rfl, hb⟩
      exact ⟨by rw [H0.out, H1.out, H2.out, H3.out], hS.next hb⟩
    simp only [Act.put, List.setIfInBounds_toArray, List.set_cons_zero, List.set_cons_succ]
    iterate 3 (refine PlanT.take (v := ?_) (by kernel_rfl) (Steady.still (by rfl) ?_) ?_; rotate_left; (focus (rintro wS ⟨c0, c1, -⟩; go_simp; try (with_reducible rfl))); simp only [Act.put, List.setIfInBounds_toArray, List.set_cons_zero, List.set_cons_succ])
    (refine PlanT.take (v := .bool true) (by kernel_rfl) (Steady.calls (f := 13) (args := #[]) (by rfl) ?_) ?_)
    focus
      intro wS hS
      refine ⟨by go_simp, (known_any wS).mono ?_⟩
      rintro e w' ⟨rfl, hb⟩
      exact ⟨rfl, hS.next hb⟩
    simp only [Act.put, List.setIfInBounds_toArray, List.set_cons_zero, List.set_cons_succ]
    iterate 2 (refine PlanT.take (v := ?_) (by kernel_rfl) (Steady.still (by rfl) ?_) ?_; rotate_left; (focus (rintro wS ⟨c0, c1, -⟩; go_simp; try (with_reducible rfl))); simp only [Act.put, List.setIfInBounds_toArray, List.set_cons_zero, List.set_cons_succ])
    refine PlanT.done (by kernel_rfl) ?_
    intro wS hS
    have HE := Lib.hid hS.2.2.out.2
    clear hS E1 E2 E3 E4
    go_wp2
    go_ret
    exact ⟨rfl, HE.out⟩

end Go.Proofs.Yteoceccofbnfnaa

/- The walk of WaveMuls. -/
import Derived.Test.YteoceccofbnfnaaTurns
namespace Go.Proofs.Yteoceccofbnfnaa
open Go.RowKit

/-- The law's two numbers, boxed. -/
def SG (w : World) (B : Nat) (p q u v : Int) (w' : World) : Prop :=
  w'.cell? ⟨B, 0, none⟩ = some (.int .i64 p) ∧ w'.cell? ⟨B, 1, none⟩ = some (.int .i64 q) ∧ w'.cell? ⟨B + 1, 0, none⟩ = some (.int .i64 u) ∧ w'.cell? ⟨B + 1, 1, none⟩ = some (.int .i64 v) ∧ Hid (Below w.heap.size w w')

theorem SG.next {w w1 w2 : World} {B : Nat} {p q u v : Int} (h : SG w B p q u v w1) (hb : Below w1.heap.size w1 w2) : SG w B p q u v w2 := by
  obtain ⟨h0, h1, h2, h3, h4⟩ := h
  have hlt : B < w1.heap.size := World.block_lt_of_cell? w1 _ h0
  have hlt1 : B + 1 < w1.heap.size := World.block_lt_of_cell? w1 _ h2
  exact ⟨(hb.cell (p := ⟨B, 0, none⟩) hlt).trans h0, (hb.cell (p := ⟨B, 1, none⟩) hlt).trans h1, (hb.cell (p := ⟨B + 1, 0, none⟩) hlt1).trans h2, (hb.cell (p := ⟨B + 1, 1, none⟩) hlt1).trans h3, Lib.hid (h4.out.trans (hb.mono h4.out.size))⟩

theorem tmod_bd (n : Int) (m : Int) (hm : 0 < m) : (n.tmod m).natAbs < m.natAbs := by
  rw [Int.natAbs_tmod]
  exact Nat.mod_lt _ (by omega)

theorem prod_bd {a b : Int} (ha : a.natAbs ≤ 1048575) (hb : b.natAbs ≤ 1048575) : -1099509530625 ≤ a * b ∧ a * b ≤ 1099509530625 := by
  have := natAbs_mul_le ha hb
  omega

set_option maxHeartbeats 3200000 in
set_option maxRecDepth 100000 in
theorem muls_walk (p q u v : Int) (w : World) :
    Calls Try.prog 5 #[.agg #[.int .i64 p, .int .i64 q], .agg #[.int .i64 u, .int .i64 v]] w fun e w' => e = .returned (.bool true) ∧ Below w.heap.size w w' := by
  have bp := tmod_bd p 1048576 (by decide)
  have bq := tmod_bd q 1048576 (by decide)
  have bu := tmod_bd u 1048576 (by decide)
  have bv := tmod_bd v 1048576 (by decide)
  go_enter Try.func5, Try.ntmps5
  go_wp2_with fail
  generalize p.tmod 1048576 = P at *
  generalize q.tmod 1048576 = Q at *
  generalize u.tmod 1048576 = U at *
  generalize v.tmod 1048576 = V at *
  have ap : P.natAbs ≤ 1048575 := by omega
  have aq : Q.natAbs ≤ 1048575 := by omega
  have au : U.natAbs ≤ 1048575 := by omega
  have av : V.natAbs ≤ 1048575 := by omega
  have x1 := prod_bd ap au
  have x2 := prod_bd aq av
  have x3 := prod_bd ap av
  have x4 := prod_bd aq au
  have x5 := prod_bd ap ap
  have x6 := prod_bd aq aq
  have HX1 : Hid (-1048576 * 4294967296 ≤ P * U ∧ P * U ≤ 1048576 * 4294967296) := by constructor <;> omega
  have HX2 : Hid (-1048576 * 4294967296 ≤ Q * V ∧ Q * V ≤ 1048576 * 4294967296) := by constructor <;> omega
  have HX3 : Hid (-1048576 * 4294967296 ≤ P * V ∧ P * V ≤ 1048576 * 4294967296) := by constructor <;> omega
  have HX4 : Hid (-1048576 * 4294967296 ≤ Q * U ∧ Q * U ≤ 1048576 * 4294967296) := by constructor <;> omega
  obtain ⟨re, im, hm, r1, r2⟩ := R.cmul (R.nearest P (by omega)) (R.nearest Q (by omega)) (R.nearest U (by omega)) (R.nearest V (by omega)) ap aq au av (by decide)
  obtain ⟨q', hq', rq⟩ := R.sub R.zero (R.nearest Q (by omega)) (by omega)
  obtain ⟨sz, si, hsz, r3, -⟩ := R.cmul (R.nearest P (by omega)) (R.nearest Q (by omega)) (R.nearest P (by omega)) rq ap aq ap (show (0 - Q).natAbs ≤ 1048575 by omega) (by decide)
  have HM := Lib.hid hm
  have HQ := Lib.hid hq'
  have HSZ := Lib.hid hsz
  have E1 := R.eq r1 (R.nearest (P * U - Q * V) (by omega))
  have E2 := R.eq r2 (R.nearest (P * V + Q * U) (by omega))
  have E3 := R.self (n := P) (by omega)
  have E4 := R.eq rq (R.nearest (-Q) (by omega))
  have e5 : P * P - Q * (0 - Q) = P * P + Q * Q := by rw [Int.zero_sub, Int.mul_neg, Int.sub_neg]
  rw [e5] at r3
  have E5 := R.eq r3 (R.nearest (P * P + Q * Q) (by omega))
  rw [decide_eq_true rfl] at E1 E2 E5
  rw [decide_eq_true (Int.zero_sub Q)] at E4
  have HS0 : Hid (SG w w.heap.size P Q U V ((w.alloc (.cells #[.int .i64 P, .int .i64 Q] 34)).alloc (.cells #[.int .i64 U, .int .i64 V] 34)).drew) := by
    refine Lib.hid ⟨?_, ?_, ?_, ?_, Lib.hid ?_⟩
    · simp [World.cell?_alloc_at, World.cell?_alloc_past]
    · simp [World.cell?_alloc_at, World.cell?_alloc_past]
    · simp [World.cell?_alloc_at]
    · simp [World.cell?_alloc_at]
    · exact (((Below.refl _ _).alloc (Nat.le_refl _) _).alloc (by simp) _).drew
  have g1 : IntKind.i64.wrap (-Q) = -Q := IntWalk.i64_in _ (by omega)
  have g2 : IntKind.i64.wrap (P * P) = P * P := IntWalk.i64_in _ (by omega)
  have g3 : IntKind.i64.wrap (Q * Q) = Q * Q := IntWalk.i64_in _ (by omega)
  have g4 : IntKind.i64.wrap (P * P + Q * Q) = P * P + Q * Q := IntWalk.i64_in _ (by omega)
  clear hm hq' hsz r1 r2 r3 rq e5 x1 x2 x3 x4 x5 x6 bp bq bu bv ap aq au av
  refine wp_region_plan 0 (SG w w.heap.size P Q U V) (by kernel_rfl) (by kernel_rfl) (by kernel_rfl) HS0.out ?_
  clear HS0
  (refine PlanT.take (v := ?_) (by kernel_rfl) (Steady.still (by rfl) ?_) ?_; rotate_left; (focus (rintro wS ⟨c0, c1, c2, c3, -⟩; go_simp; try (with_reducible rfl))); simp only [Act.put, List.setIfInBounds_toArray, List.set_cons_zero, List.set_cons_succ])
  (refine PlanT.take (v := .complex .f64 (floatOfInt .f64 P) (floatOfInt .f64 Q)) (by kernel_rfl) (Steady.calls (f := 15) (args := #[.agg #[.int .i64 P, .int .i64 Q]]) (by rfl) ?_) ?_)
  focus
    intro wS hS
    refine ⟨by go_simp, (gauss_any P Q wS).mono ?_⟩
    rintro e w' ⟨rfl, hb⟩
    exact ⟨rfl, hS.next hb⟩
  simp only [Act.put, List.setIfInBounds_toArray, List.set_cons_zero, List.set_cons_succ]
  (refine PlanT.take (v := ?_) (by kernel_rfl) (Steady.still (by rfl) ?_) ?_; rotate_left; (focus (rintro wS ⟨c0, c1, c2, c3, -⟩; go_simp; try (with_reducible rfl))); simp only [Act.put, List.setIfInBounds_toArray, List.set_cons_zero, List.set_cons_succ])
  (refine PlanT.take (v := .complex .f64 (floatOfInt .f64 U) (floatOfInt .f64 V)) (by kernel_rfl) (Steady.calls (f := 15) (args := #[.agg #[.int .i64 U, .int .i64 V]]) (by rfl) ?_) ?_)
  focus
    intro wS hS
    refine ⟨by go_simp, (gauss_any U V wS).mono ?_⟩
    rintro e w' ⟨rfl, hb⟩
    exact ⟨rfl, hS.next hb⟩
  simp only [Act.put, List.setIfInBounds_toArray, List.set_cons_zero, List.set_cons_succ]
  (refine PlanT.take (v := .complex .f64 re im) (by kernel_rfl) (Steady.calls (f := 14) (args := #[.complex .f64 (floatOfInt .f64 P) (floatOfInt .f64 Q), .complex .f64 (floatOfInt .f64 U) (floatOfInt .f64 V)]) (by rfl) ?_) ?_)
  focus
    intro wS hS
    refine ⟨by go_simp, (mul_any _ _ _ _ re im wS HM.out).mono ?_⟩
    rintro e w' ⟨rfl, rfl⟩
    exact ⟨rfl, hS⟩
  simp only [Act.put, List.setIfInBounds_toArray, List.set_cons_zero, List.set_cons_succ]
  iterate 2 (refine PlanT.take (v := ?_) (by kernel_rfl) (Steady.still (by rfl) ?_) ?_; rotate_left; (focus (rintro wS ⟨c0, c1, c2, c3, -⟩; go_simp; try (with_reducible rfl))); simp only [Act.put, List.setIfInBounds_toArray, List.set_cons_zero, List.set_cons_succ])
  (refine PlanT.take (v := .agg #[.int .i64 (P * U - Q * V), .int .i64 (P * V + Q * U)]) (by kernel_rfl) (Steady.calls (f := 16) (args := #[.agg #[.int .i64 P, .int .i64 Q], .agg #[.int .i64 U, .int .i64 V]]) (by rfl) ?_) ?_)
  focus
    intro wS hS
    refine ⟨by go_simp, (rmul_any P Q U V wS HX1.out HX2.out HX3.out HX4.out).mono ?_⟩
    rintro e w' ⟨rfl, hb⟩
    exact ⟨rfl, hS.next hb⟩
  simp only [Act.put, List.setIfInBounds_toArray, List.set_cons_zero, List.set_cons_succ]
  (refine PlanT.take (v := .complex .f64 (floatOfInt .f64 (P * U - Q * V)) (floatOfInt .f64 (P * V + Q * U))) (by kernel_rfl) (Steady.calls (f := 15) (args := #[.agg #[.int .i64 (P * U - Q * V), .int .i64 (P * V + Q * U)]]) (by rfl) ?_) ?_)
  focus
    intro wS hS
    refine ⟨by go_simp, (gauss_any _ _ wS).mono ?_⟩
    rintro e w' ⟨rfl, hb⟩
    exact ⟨rfl, hS.next hb⟩
  simp only [Act.put, List.setIfInBounds_toArray, List.set_cons_zero, List.set_cons_succ]
  iterate 3 (refine PlanT.take (v := ?_) (by kernel_rfl) (Steady.still (by rfl) ?_) ?_; rotate_left; (focus (rintro wS ⟨c0, c1, c2, c3, -⟩; go_simp; try (with_reducible rfl))); simp only [Act.put, List.setIfInBounds_toArray, List.set_cons_zero, List.set_cons_succ])
  (refine PlanT.take (v := .complex .f64 (floatOfInt .f64 P) (floatOfInt .f64 Q)) (by kernel_rfl) (Steady.calls (f := 15) (args := #[.agg #[.int .i64 P, .int .i64 Q]]) (by rfl) ?_) ?_)
  focus
    intro wS hS
    refine ⟨by go_simp, (gauss_any P Q wS).mono ?_⟩
    rintro e w' ⟨rfl, hb⟩
    exact ⟨rfl, hS.next hb⟩
  simp only [Act.put, List.setIfInBounds_toArray, List.set_cons_zero, List.set_cons_succ]
  (refine PlanT.take (v := .complex .f64 (floatOfInt .f64 P) q') (by kernel_rfl) (Steady.calls (f := 17) (args := #[.complex .f64 (floatOfInt .f64 P) (floatOfInt .f64 Q)]) (by rfl) ?_) ?_)
  focus
    intro wS hS
    refine ⟨by go_simp, (back_any _ _ q' wS HQ.out).mono ?_⟩
    rintro e w' ⟨rfl, rfl⟩
    exact ⟨rfl, hS⟩
  simp only [Act.put, List.setIfInBounds_toArray, List.set_cons_zero, List.set_cons_succ]
  iterate 12 (refine PlanT.take (v := ?_) (by kernel_rfl) (Steady.still (by rfl) ?_) ?_; rotate_left; (focus (rintro wS ⟨c0, c1, c2, c3, -⟩; go_simp; try (with_reducible rfl))); simp only [Act.put, List.setIfInBounds_toArray, List.set_cons_zero, List.set_cons_succ])
  (refine PlanT.take (v := .complex .f64 (floatOfInt .f64 P) (floatOfInt .f64 Q)) (by kernel_rfl) (Steady.calls (f := 15) (args := #[.agg #[.int .i64 P, .int .i64 Q]]) (by rfl) ?_) ?_)
  focus
    intro wS hS
    refine ⟨by go_simp, (gauss_any P Q wS).mono ?_⟩
    rintro e w' ⟨rfl, hb⟩
    exact ⟨rfl, hS.next hb⟩
  simp only [Act.put, List.setIfInBounds_toArray, List.set_cons_zero, List.set_cons_succ]
  (refine PlanT.take (v := .float .f64 sz) (by kernel_rfl) (Steady.calls (f := 18) (args := #[.complex .f64 (floatOfInt .f64 P) (floatOfInt .f64 Q)]) (by rfl) ?_) ?_)
  focus
    intro wS hS
    refine ⟨by go_simp, (size_any _ _ q' sz si wS HQ.out HSZ.out).mono ?_⟩
    rintro e w' ⟨rfl, rfl⟩
    exact ⟨rfl, hS⟩
  simp only [Act.put, List.setIfInBounds_toArray, List.set_cons_zero, List.set_cons_succ]
  iterate 15 (refine PlanT.take (v := ?_) (by kernel_rfl) (Steady.still (by rfl) ?_) ?_; rotate_left; (focus (rintro wS ⟨c0, c1, c2, c3, -⟩; go_simp; try (with_reducible rfl))); simp only [Act.put, List.setIfInBounds_toArray, List.set_cons_zero, List.set_cons_succ])
  (refine PlanT.take (v := .bool true) (by kernel_rfl) (Steady.calls (f := 13) (args := #[]) (by rfl) ?_) ?_)
  focus
    intro wS hS
    refine ⟨by go_simp, (known_any wS).mono ?_⟩
    rintro e w' ⟨rfl, hb⟩
    exact ⟨rfl, hS.next hb⟩
  simp only [Act.put, List.setIfInBounds_toArray, List.set_cons_zero, List.set_cons_succ]
  iterate 2 (refine PlanT.take (v := ?_) (by kernel_rfl) (Steady.still (by rfl) ?_) ?_; rotate_left; (focus (rintro wS ⟨c0, c1, c2, c3, -⟩; go_simp; try (with_reducible rfl))); simp only [Act.put, List.setIfInBounds_toArray, List.set_cons_zero, List.set_cons_succ])
  refine PlanT.done (by kernel_rfl) ?_
  intro wS hS
  have HE := Lib.hid hS.2.2.2.2.out
  clear hS E1 E2 E3 E4 E5 g1 g2 g3 g4
  go_wp2
  go_ret
  exact ⟨rfl, HE.out⟩

end Go.Proofs.Yteoceccofbnfnaa

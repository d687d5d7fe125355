/- The walk of WaveTurns. -/
import Derived.Test.YteoceccofbnfnaaWalkC
namespace Go.Proofs.Yteoceccofbnfnaa
open Go.RowKit

theorem hs_bd' (zs : List Int) (k : Nat) : ∀ j : Nat, -1048576 < (hs zs k)[j]?.getD 0 ∧ (hs zs k)[j]?.getD 0 < 1048576 := fun j => by
  have := hs_bd zs k j
  omega

theorem R.self {n : Int} (h : n.natAbs < 2 ^ 53) : (FloatKind.f64.format.order (floatOfInt .f64 n) (floatOfInt .f64 n) == some .eq) = true := by
  rw [R.eq (R.nearest n h) (R.nearest n h)]; simp

theorem rowOf_of {w : World} {x : Addr} {len : Nat} {zs : List Int} (hcell : ∀ i, i < zs.length → w.cell? (x.add i) = some (.int .i64 (zs.getD i 0))) (hl : len ≤ zs.length) : RowOf w (some x) len zs := by
  intro h
  obtain ⟨b, off, spot⟩ := x
  have hc := hcell 0 (by omega)
  have hspot : spot = none := by simpa [Addr.add] using World.cell?_spot hc
  subst hspot
  refine ⟨b, off, rfl, ?_, fun j hj => ?_⟩
  · exact World.block_lt_of_cell? w ⟨b, off + 0, none⟩ (by simpa [Addr.add] using hc)
  · have := hcell j (by omega)
    have e : (⟨b, off, none⟩ : Addr).add j = ⟨b, off + j, none⟩ := by unfold Addr.add; split <;> simp_all
    rw [e] at this
    simpa using this

/-- Two arrays of the same four numbers are one. -/
theorem eq4 (a b c d : Int) (w : World) : (Op.equalIn 10000 24 (.agg #[.int .i64 a, .int .i64 b, .int .i64 c, .int .i64 d]) (.agg #[.int .i64 a, .int .i64 b, .int .i64 c, .int .i64 d])).run Try.prog w = .ok true w := by
  have h3 : Try.prog.underlying 3 = some (.int .i64) := Try.underlying3
  have e : ∀ (n : Int) (w : World), (Op.equalIn 9999 3 (.int .i64 n) (.int .i64 n)).run Try.prog w = .ok true w := fun n w => by rw [run_equalIn_int w 9998 3 .i64 .i64 n n h3]; simp
  have l : List.range' 0 4 = [0, 1, 2, 3] := rfl
  rw [Op.equalIn]
  simp [Sem.run_bind, run_underlying Try.underlying24, go_sem, l, e]

/-- What the law's own memory holds while its last line is reckoned. -/
def SW (w : World) (B : Nat) (f0 f1 f2 f3 : Int) (a : Option Addr) (len : Nat) (zs : List Int) (w' : World) : Prop :=
  w'.cell? ⟨B, 0, none⟩ = some (.int .i64 f0) ∧ w'.cell? ⟨B, 1, none⟩ = some (.int .i64 f1) ∧ w'.cell? ⟨B, 2, none⟩ = some (.int .i64 f2) ∧ w'.cell? ⟨B, 3, none⟩ = some (.int .i64 f3) ∧ Hid (RowOf w' a len zs ∧ Below w.heap.size w w')

theorem SW.next {w w1 w2 : World} {B : Nat} {f0 f1 f2 f3 : Int} {a : Option Addr} {len : Nat} {zs : List Int} (h : SW w B f0 f1 f2 f3 a len zs w1) (hb : Below w1.heap.size w1 w2) : SW w B f0 f1 f2 f3 a len zs w2 := by
  obtain ⟨h0, h1, h2, h3, h4⟩ := h
  have hlt : B < w1.heap.size := World.block_lt_of_cell? w1 _ h0
  exact ⟨(hb.cell (p := ⟨B, 0, none⟩) hlt).trans h0, (hb.cell (p := ⟨B, 1, none⟩) hlt).trans h1, (hb.cell (p := ⟨B, 2, none⟩) hlt).trans h2, (hb.cell (p := ⟨B, 3, none⟩) hlt).trans h3,
    Lib.hid ⟨h4.out.1.below hb (Nat.le_refl _), h4.out.2.trans (hb.mono h4.out.2.size)⟩⟩

set_option maxHeartbeats 1600000 in
set_option maxRecDepth 100000 in
theorem turns_walk (a : Option Addr) (len cap : Nat) (zs : List Int) (w : World) (ha : RowOf w a len zs) :
    Calls Try.prog 3 #[.slice a len cap] w fun e w' => e = .returned (.bool true) ∧ Below w.heap.size w w' := by
  by_cases hl : (200 : Int) < len
  · go_enter Try.func3, Try.ntmps3
    go_wp2
    go_ret
    exact ⟨rfl, Below.refl _ _⟩
  · have hl2 : len ≤ 200 := by omega
    obtain ⟨b0, b1⟩ := fourth_bd (hs zs len) (hs_bd' zs len) 0 len (by omega)
    obtain ⟨b2, b3⟩ := fourth_bd (hs zs len) (hs_bd' zs len) 1 len (by omega)
    obtain ⟨b4, b5⟩ := fourth_bd (hs zs len) (hs_bd' zs len) 2 len (by omega)
    obtain ⟨b6, b7⟩ := fourth_bd (hs zs len) (hs_bd' zs len) 3 len (by omega)
    have HA := Lib.hid ha
    clear ha
    go_enter Try.func3, Try.ntmps3
    go_wp2_with fail
    refine (held_any a len cap zs w hl2 HA.out).mono ?_
    rintro e w1 ⟨a', cap', rfl, hrow, hbel⟩
    have HR := Lib.hid hrow
    have HB := Lib.hid hbel
    clear hrow hbel
    go_wp2_with fail
    refine (rfourths_any a' len cap' (hs zs len) w1 hl2 HR.out (hs_bd' zs len)).mono ?_
    rintro e w2 ⟨rfl, hbel⟩
    have HB2 := Lib.hid hbel
    clear hbel
    generalize hf0 : fourth (hs zs len) 0 len = f0 at *
    generalize hf1 : fourth (hs zs len) 1 len = f1 at *
    generalize hf2 : fourth (hs zs len) 2 len = f2 at *
    generalize hf3 : fourth (hs zs len) 3 len = f3 at *
    have H0 := Lib.hid hf0
    have H1 := Lib.hid hf1
    have H2 := Lib.hid hf2
    have H3 := Lib.hid hf3
    clear hf0 hf1 hf2 hf3
    go_wp2_with fail
    have HS0 : Hid (SW w w2.heap.size f0 f1 f2 f3 a' len (hs zs len) (w2.alloc (Obj.cells #[Value.int IntKind.i64 f0, Value.int IntKind.i64 f1, Value.int IntKind.i64 f2, Value.int IntKind.i64 f3] 24)).drew) := by
      refine Lib.hid ⟨?_, ?_, ?_, ?_, Lib.hid ⟨?_, ?_⟩⟩
      · simp [World.cell?_alloc_at]
      · simp [World.cell?_alloc_at]
      · simp [World.cell?_alloc_at]
      · simp [World.cell?_alloc_at]
      · exact (HR.out.below HB2.out (Nat.le_refl _)).below (((Below.refl _ w2).alloc (Nat.le_refl _) _).drew) (Nat.le_refl _)
      · exact ((HB.out.trans (HB2.out.mono HB.out.size)).alloc (by have := HB.out.size; have := HB2.out.size; omega) _).drew
    have he4 := eq4 f0 f1 f2 f3
    have R1 := R.self (n := f0 - f2) (by omega)
    have R2 := R.self (n := f1 - f3) (by omega)
    have g1 : IntKind.i64.wrap (f0 - f2) = f0 - f2 := IntWalk.i64_in _ (by omega)
    have g2 : IntKind.i64.wrap (f1 - f3) = f1 - f3 := IntWalk.i64_in _ (by omega)
    refine wp_region_plan 0 (SW w w2.heap.size f0 f1 f2 f3 a' len (hs zs len)) (by kernel_rfl) (by kernel_rfl) (by kernel_rfl) HS0.out ?_
    clear HS0 HB HB2 HA HR
    (refine PlanT.take (v := ?_) (by kernel_rfl) (Steady.still (by rfl) ?_) ?_; rotate_left; (focus (rintro wS ⟨c0, c1, c2, c3, -⟩; go_simp; try (with_reducible rfl))); simp only [Act.put, List.setIfInBounds_toArray, List.set_cons_zero, List.set_cons_succ])
    (refine PlanT.take (v := .complex .f64 (floatOfInt .f64 (f0 - f2)) (floatOfInt .f64 (f1 - f3))) (by kernel_rfl) (Steady.calls (f := 11) (args := #[.slice a' len cap']) (by rfl) ?_) ?_)
    focus
      intro wS hS
      refine ⟨by go_simp, (turn_any a' len cap' (hs zs len) wS hl2 (hS.2.2.2.2.out.1) (hs_bd' zs len)).mono ?_⟩
      rintro e w' ⟨rfl, hb⟩
      exact ⟨by rw [H0.out, H1.out, H2.out, H3.out], hS.next hb⟩
    simp only [Act.put, List.setIfInBounds_toArray, List.set_cons_zero, List.set_cons_succ]
    iterate 16 (refine PlanT.take (v := ?_) (by kernel_rfl) (Steady.still (by rfl) ?_) ?_; rotate_left; (focus (rintro wS ⟨c0, c1, c2, c3, -⟩; go_simp; try (with_reducible rfl))); simp only [Act.put, List.setIfInBounds_toArray, List.set_cons_zero, List.set_cons_succ])
    (refine PlanT.take (v := .agg #[.int .i64 f0, .int .i64 f1, .int .i64 f2, .int .i64 f3]) (by kernel_rfl) (Steady.calls (f := 12) (args := #[.slice a' len cap']) (by rfl) ?_) ?_)
    focus
      intro wS hS
      refine ⟨by go_simp, (fourths_any a' len cap' (hs zs len) wS hl2 (hS.2.2.2.2.out.1) (hs_bd' zs len)).mono ?_⟩
      rintro e w' ⟨rfl, hb⟩
      exact ⟨by rw [H0.out, H1.out, H2.out, H3.out], hS.next hb⟩
    simp only [Act.put, List.setIfInBounds_toArray, List.set_cons_zero, List.set_cons_succ]
    iterate 4 (refine PlanT.take (v := ?_) (by kernel_rfl) (Steady.still (by rfl) ?_) ?_; rotate_left; (focus (rintro wS ⟨c0, c1, c2, c3, -⟩; go_simp; try (with_reducible rfl))); simp only [Act.put, List.setIfInBounds_toArray, List.set_cons_zero, List.set_cons_succ])
    (refine PlanT.take (v := .bool true) (by kernel_rfl) (Steady.calls (f := 13) (args := #[]) (by rfl) ?_) ?_)
    focus
      intro wS hS
      refine ⟨by go_simp, (known_any wS).mono ?_⟩
      rintro e w' ⟨rfl, hb⟩
      exact ⟨rfl, hS.next hb⟩
    simp only [Act.put, List.setIfInBounds_toArray, List.set_cons_zero, List.set_cons_succ]
    (refine PlanT.take (v := ?_) (by kernel_rfl) (Steady.still (by rfl) ?_) ?_; rotate_left; (focus (rintro wS ⟨c0, c1, c2, c3, -⟩; go_simp; try (with_reducible rfl))); simp only [Act.put, List.setIfInBounds_toArray, List.set_cons_zero, List.set_cons_succ])
    (refine PlanT.take (v := ?_) (by kernel_rfl) (Steady.still (by rfl) ?_) ?_; rotate_left; (focus (rintro wS ⟨c0, c1, c2, c3, -⟩; go_simp; try (with_reducible rfl))); simp only [Act.put, List.setIfInBounds_toArray, List.set_cons_zero, List.set_cons_succ])
    refine PlanT.done (by kernel_rfl) ?_
    intro wS hS
    have HE := Lib.hid hS.2.2.2.2.out.2
    clear hS he4 R1 R2 g1 g2
    go_wp2
    go_ret
    exact ⟨rfl, HE.out⟩

end Go.Proofs.Yteoceccofbnfnaa

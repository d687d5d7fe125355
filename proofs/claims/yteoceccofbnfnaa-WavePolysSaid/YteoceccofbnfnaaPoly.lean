/- Powers and sums of whole numbers of two parts: their bounds, and what they are at the four units. Plain arithmetic. -/
import Derived.Test.YteoceccofbnfnaaWalkB
namespace Go.Proofs.Yteoceccofbnfnaa

theorem pw_succ (p q : Int) (k : Nat) : pw p q (k + 1) = ((pw p q k).1 * p - (pw p q k).2 * q, (pw p q k).1 * q + (pw p q k).2 * p) := rfl
theorem ps_succ (p q : Int) (zs : List Int) (k : Nat) : ps p q zs (k + 1) = ((ps p q zs k).1 + zs[k]?.getD 0 * (pw p q k).1, (ps p q zs k).2 + zs[k]?.getD 0 * (pw p q k).2) := rfl
theorem fourth_succ (zs : List Int) (r k : Nat) : fourth zs r (k + 1) = fourth zs r k + if k % 4 = r then zs[k]?.getD 0 else 0 := rfl

theorem pw_small {p q : Int} (hp : p.natAbs ≤ 3) (hq : q.natAbs ≤ 3) : ∀ k, (pw p q k).1.natAbs ≤ 6 ^ k ∧ (pw p q k).2.natAbs ≤ 6 ^ k := by
  intro k
  induction k with
  | zero => simp [pw]
  | succ k ih =>
    obtain ⟨h1, h2⟩ := ih
    rw [pw_succ, Nat.pow_succ]
    have a1 := natAbs_mul_le h1 hp
    have a2 := natAbs_mul_le h2 hq
    have a3 := natAbs_mul_le h1 hq
    have a4 := natAbs_mul_le h2 hp
    simp only
    generalize (pw p q k).1 * p = x1 at *
    generalize (pw p q k).2 * q = x2 at *
    generalize (pw p q k).1 * q = x3 at *
    generalize (pw p q k).2 * p = x4 at *
    omega

theorem ps_small {p q : Int} {zs : List Int} (hp : p.natAbs ≤ 3) (hq : q.natAbs ≤ 3) (hz : ∀ j : Nat, (zs[j]?.getD 0).natAbs < 1048576) : ∀ k, (ps p q zs k).1.natAbs ≤ 1048576 * 6 ^ k ∧ (ps p q zs k).2.natAbs ≤ 1048576 * 6 ^ k := by
  intro k
  induction k with
  | zero => simp [ps]
  | succ k ih =>
    obtain ⟨h1, h2⟩ := ih
    obtain ⟨u1, u2⟩ := pw_small hp hq k
    have z1 : (zs[k]?.getD 0).natAbs ≤ 1048576 := by have := hz k; omega
    rw [ps_succ, Nat.pow_succ]
    have a1 := natAbs_mul_le z1 u1
    have a2 := natAbs_mul_le z1 u2
    simp only
    generalize zs[k]?.getD 0 * (pw p q k).1 = x1 at *
    generalize zs[k]?.getD 0 * (pw p q k).2 = x2 at *
    generalize 6 ^ k = s at *
    omega

theorem fine_small {p q : Int} {zs : List Int} {len : Nat} (hp : p.natAbs ≤ 3) (hq : q.natAbs ≤ 3) (hz : ∀ j : Nat, (zs[j]?.getD 0).natAbs < 1048576) (hl : len ≤ 12) : Fine p q zs len := by
  refine ⟨by omega, by omega, hz, fun k hk => ?_, fun k hk => ?_⟩
  · obtain ⟨h1, h2⟩ := pw_small hp hq k
    have : 6 ^ k ≤ 6 ^ 12 := Nat.pow_le_pow_right (by decide) (by omega)
    omega
  · obtain ⟨h1, h2⟩ := ps_small hp hq hz k
    have : 6 ^ k ≤ 6 ^ 12 := Nat.pow_le_pow_right (by decide) (by omega)
    omega

/-- One of the four units. -/
def Unit4 (p q : Int) : Prop := (p = 1 ∧ q = 0) ∨ (p = -1 ∧ q = 0) ∨ (p = 0 ∧ q = 1) ∨ (p = 0 ∧ q = -1)

theorem pw_unit {p q : Int} (h : Unit4 p q) : ∀ k, (pw p q k).1.natAbs + (pw p q k).2.natAbs ≤ 1 := by
  intro k
  induction k with
  | zero => simp [pw]
  | succ k ih =>
    rw [pw_succ]
    rcases h with ⟨rfl, rfl⟩ | ⟨rfl, rfl⟩ | ⟨rfl, rfl⟩ | ⟨rfl, rfl⟩ <;> simp only <;> omega

theorem ps_unit {p q : Int} {zs : List Int} (h : Unit4 p q) (hz : ∀ j : Nat, (zs[j]?.getD 0).natAbs < 1048576) : ∀ k, (ps p q zs k).1.natAbs ≤ 1048576 * k ∧ (ps p q zs k).2.natAbs ≤ 1048576 * k := by
  intro k
  induction k with
  | zero => simp [ps]
  | succ k ih =>
    obtain ⟨h1, h2⟩ := ih
    have hu := pw_unit h k
    have z1 : (zs[k]?.getD 0).natAbs ≤ 1048576 := by have := hz k; omega
    rw [ps_succ]
    have a1 := natAbs_mul_le z1 (show (pw p q k).1.natAbs ≤ 1 by omega)
    have a2 := natAbs_mul_le z1 (show (pw p q k).2.natAbs ≤ 1 by omega)
    simp only
    generalize zs[k]?.getD 0 * (pw p q k).1 = x1 at *
    generalize zs[k]?.getD 0 * (pw p q k).2 = x2 at *
    omega

theorem fine_unit {p q : Int} {zs : List Int} {len : Nat} (h : Unit4 p q) (hz : ∀ j : Nat, (zs[j]?.getD 0).natAbs < 1048576) (hl : len ≤ 300) : Fine p q zs len := by
  refine ⟨?_, ?_, hz, fun k hk => ?_, fun k hk => ?_⟩
  · rcases h with ⟨rfl, rfl⟩ | ⟨rfl, rfl⟩ | ⟨rfl, rfl⟩ | ⟨rfl, rfl⟩ <;> decide
  · rcases h with ⟨rfl, rfl⟩ | ⟨rfl, rfl⟩ | ⟨rfl, rfl⟩ | ⟨rfl, rfl⟩ <;> decide
  · have := pw_unit h k; omega
  · have := ps_unit h hz k; omega

theorem pw_i (k : Nat) : (k % 4 = 0 → pw 0 1 k = (1, 0)) ∧ (k % 4 = 1 → pw 0 1 k = (0, 1)) ∧ (k % 4 = 2 → pw 0 1 k = (-1, 0)) ∧ (k % 4 = 3 → pw 0 1 k = (0, -1)) := by
  induction k with
  | zero => simp [pw]
  | succ k ih =>
    obtain ⟨h0, h1, h2, h3⟩ := ih
    refine ⟨fun h => ?_, fun h => ?_, fun h => ?_, fun h => ?_⟩
    · rw [pw_succ, h3 (by omega)]; rfl
    · rw [pw_succ, h0 (by omega)]; rfl
    · rw [pw_succ, h1 (by omega)]; rfl
    · rw [pw_succ, h2 (by omega)]; rfl

theorem pw_ni (k : Nat) : (k % 4 = 0 → pw 0 (-1) k = (1, 0)) ∧ (k % 4 = 1 → pw 0 (-1) k = (0, -1)) ∧ (k % 4 = 2 → pw 0 (-1) k = (-1, 0)) ∧ (k % 4 = 3 → pw 0 (-1) k = (0, 1)) := by
  induction k with
  | zero => simp [pw]
  | succ k ih =>
    obtain ⟨h0, h1, h2, h3⟩ := ih
    refine ⟨fun h => ?_, fun h => ?_, fun h => ?_, fun h => ?_⟩
    · rw [pw_succ, h3 (by omega)]; rfl
    · rw [pw_succ, h0 (by omega)]; rfl
    · rw [pw_succ, h1 (by omega)]; rfl
    · rw [pw_succ, h2 (by omega)]; rfl

theorem pw_one (k : Nat) : pw 1 0 k = (1, 0) := by
  induction k with
  | zero => rfl
  | succ k ih => rw [pw_succ, ih]; rfl

theorem pw_neg (k : Nat) : (k % 2 = 0 → pw (-1) 0 k = (1, 0)) ∧ (k % 2 = 1 → pw (-1) 0 k = (-1, 0)) := by
  induction k with
  | zero => simp [pw]
  | succ k ih =>
    obtain ⟨h0, h1⟩ := ih
    refine ⟨fun h => ?_, fun h => ?_⟩
    · rw [pw_succ, h1 (by omega)]; rfl
    · rw [pw_succ, h0 (by omega)]; rfl

theorem four (k : Nat) : k % 4 = 0 ∨ k % 4 = 1 ∨ k % 4 = 2 ∨ k % 4 = 3 := by omega

theorem ps_i (zs : List Int) (k : Nat) : ps 0 1 zs k = (fourth zs 0 k - fourth zs 2 k, fourth zs 1 k - fourth zs 3 k) := by
  induction k with
  | zero => rfl
  | succ k ih =>
    rw [ps_succ, ih]
    simp only [fourth_succ]
    obtain ⟨h0, h1, h2, h3⟩ := pw_i k
    rcases four k with h | h | h | h
    · rw [h0 h]; simp [h]; omega
    · rw [h1 h]; simp [h]; omega
    · rw [h2 h]; simp [h]; omega
    · rw [h3 h]; simp [h]; omega

theorem ps_ni (zs : List Int) (k : Nat) : ps 0 (-1) zs k = (fourth zs 0 k - fourth zs 2 k, fourth zs 3 k - fourth zs 1 k) := by
  induction k with
  | zero => rfl
  | succ k ih =>
    rw [ps_succ, ih]
    simp only [fourth_succ]
    obtain ⟨h0, h1, h2, h3⟩ := pw_ni k
    rcases four k with h | h | h | h
    · rw [h0 h]; simp [h]; omega
    · rw [h1 h]; simp [h]; omega
    · rw [h2 h]; simp [h]; omega
    · rw [h3 h]; simp [h]; omega

theorem ps_one (zs : List Int) (k : Nat) : ps 1 0 zs k = (fourth zs 0 k + fourth zs 1 k + fourth zs 2 k + fourth zs 3 k, 0) := by
  induction k with
  | zero => rfl
  | succ k ih =>
    rw [ps_succ, ih]
    simp only [fourth_succ]
    rw [pw_one]
    rcases four k with h | h | h | h <;> simp [h] <;> omega

theorem ps_neg (zs : List Int) (k : Nat) : ps (-1) 0 zs k = (fourth zs 0 k - fourth zs 1 k + fourth zs 2 k - fourth zs 3 k, 0) := by
  induction k with
  | zero => rfl
  | succ k ih =>
    rw [ps_succ, ih]
    simp only [fourth_succ]
    obtain ⟨h0, h1⟩ := pw_neg k
    rcases four k with h | h | h | h
    · rw [h0 (by omega)]; simp [h]; omega
    · rw [h1 (by omega)]; simp [h]; omega
    · rw [h0 (by omega)]; simp [h]; omega
    · rw [h1 (by omega)]; simp [h]; omega

end Go.Proofs.Yteoceccofbnfnaa

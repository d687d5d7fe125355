/- Whole numbers below 2^53 as float64 words: sums, differences, products and comparisons are exact. Plain arithmetic, nothing of the program. -/
import Derived.Laws.ComplexArith
namespace Go.Proofs.Yteoceccofbnfnaa
open Ieee

/-- What a datum stands for is the whole number n. -/
def Is (d : Datum) (n : Int) : Prop :=
  ∃ s m e b, d = .number s m e ∧ b ≤ e ∧ b ≤ 0 ∧ signed s m (e - b).toNat = n * 2 ^ (-b).toNat

theorem signed_eq (s : Bool) (m k : Nat) : signed s m k = (if s then -1 else 1) * ((m : Int) * 2 ^ k) := by
  unfold signed
  rw [Nat.shiftLeft_eq]
  cases s
  · simp
  · simp

/-- The same, from a deeper place. -/
theorem Is.deeper {s m e b} {n : Int} (hb : b ≤ e) (h0 : b ≤ 0) (h : signed s m (e - b).toNat = n * 2 ^ (-b).toNat) (c : Int) (hc : c ≤ b) : signed s m (e - c).toNat = n * 2 ^ (-c).toNat := by
  rw [signed_eq] at *
  have e1 : (e - c).toNat = (e - b).toNat + (b - c).toNat := by omega
  have e2 : (-c).toNat = (-b).toNat + (b - c).toNat := by omega
  rw [e1, e2, Int.pow_add, Int.pow_add, ← Int.mul_assoc, ← Int.mul_assoc, ← Int.mul_assoc, ← h]
  simp only [Int.mul_assoc]

theorem signed_shift (s : Bool) (m k j : Nat) : signed s m (k + j) = signed s m k * 2 ^ j := by
  rw [signed_eq, signed_eq, Int.pow_add]
  simp only [Int.mul_assoc]

theorem pow_pos_int (k : Nat) : (0 : Int) < 2 ^ k := Int.pow_pos (by decide)

theorem Is.sum {d e : Datum} {a b : Int} (hd : Is d a) (he : Is e b) : ∃ r, d.sum e = some r ∧ Is r (a + b) := by
  obtain ⟨s, m, i, p, rfl, h1, h2, h3⟩ := hd
  obtain ⟨t, n, j, q, rfl, g1, g2, g3⟩ := he
  refine ⟨_, rfl, ?_⟩
  have hx := Is.deeper h1 h2 h3 (min p q) (by omega)
  have hy := Is.deeper g1 g2 g3 (min p q) (by omega)
  have ex : (i - min p q).toNat = (i - min i j).toNat + (min i j - min p q).toNat := by omega
  have ey : (j - min p q).toNat = (j - min i j).toNat + (min i j - min p q).toNat := by omega
  rw [ex, signed_shift] at hx
  rw [ey, signed_shift] at hy
  refine ⟨_, _, _, min p q, rfl, by omega, by omega, ?_⟩
  rw [Int.add_mul, ← hx, ← hy, ← Int.add_mul]
  generalize signed s m (i - min i j).toNat + signed t n (j - min i j).toNat = total
  rw [signed_eq]
  rw [← Int.mul_assoc]
  congr 1
  by_cases hz : total = 0
  · subst hz; simp
  · rw [if_neg hz]
    by_cases hn : total < 0
    · simp [hn]; omega
    · simp [hn]; omega

theorem Is.opposite {d : Datum} {a : Int} (hd : Is d a) : Is d.opposite (-a) := by
  obtain ⟨s, m, i, p, rfl, h1, h2, h3⟩ := hd
  refine ⟨!s, m, i, p, rfl, h1, h2, ?_⟩
  rw [signed_eq] at *
  rw [Int.neg_mul, ← h3]
  cases s <;> simp

theorem Is.product {d e : Datum} {a b : Int} (hd : Is d a) (he : Is e b) : ∃ r, d.product e = some r ∧ Is r (a * b) := by
  obtain ⟨s, m, i, p, rfl, h1, h2, h3⟩ := hd
  obtain ⟨t, n, j, q, rfl, g1, g2, g3⟩ := he
  refine ⟨_, rfl, ?_⟩
  refine ⟨_, _, _, p + q, rfl, by omega, by omega, ?_⟩
  rw [signed_eq] at *
  have e1 : (i + j - (p + q)).toNat = (i - p).toNat + (j - q).toNat := by omega
  have e2 : (-(p + q)).toNat = (-p).toNat + (-q).toNat := by omega
  rw [e1, e2, Int.pow_add, Int.pow_add]
  have : a * b * (2 ^ (-p).toNat * 2 ^ (-q).toNat) = (a * 2 ^ (-p).toNat) * (b * 2 ^ (-q).toNat) := by
    simp only [Int.mul_assoc, Int.mul_left_comm]
  rw [this, ← h3, ← g3]
  have hs : (if (s ^^ t) = true then (-1 : Int) else 1) = (if s = true then -1 else 1) * (if t = true then -1 else 1) := by cases s <;> cases t <;> rfl
  rw [Int.natCast_mul, hs]
  ac_rfl

theorem cmp_scale (x y k : Int) (hk : 0 < k) : compare (x * k) (y * k) = compare x y := by
  simp only [compare, compareOfLessAndEq]
  have h1 : (x * k < y * k) ↔ x < y := Int.mul_lt_mul_right hk
  have h2 : (x * k = y * k) ↔ x = y := Int.mul_eq_mul_right_iff (by omega)
  simp only [h1, h2]

theorem Is.order {d e : Datum} {a b : Int} (hd : Is d a) (he : Is e b) : d.order e = some (compare a b) := by
  obtain ⟨s, m, i, p, rfl, h1, h2, h3⟩ := hd
  obtain ⟨t, n, j, q, rfl, g1, g2, g3⟩ := he
  show some (compare _ _) = _
  congr 1
  have hx := Is.deeper h1 h2 h3 (min p q) (by omega)
  have hy := Is.deeper g1 g2 g3 (min p q) (by omega)
  have ex : (i - min p q).toNat = (i - min i j).toNat + (min i j - min p q).toNat := by omega
  have ey : (j - min p q).toNat = (j - min i j).toNat + (min i j - min p q).toNat := by omega
  rw [ex, signed_shift] at hx
  rw [ey, signed_shift] at hy
  rw [← cmp_scale _ _ _ (pow_pos_int (min i j - min p q).toNat), hx, hy, cmp_scale _ _ _ (pow_pos_int _)]

theorem Is.order_eq {d e : Datum} {a b : Int} (hd : Is d a) (he : Is e b) : (d.order e == some .eq) = decide (a = b) := by
  rw [hd.order he]
  by_cases h : a = b
  · subst h; simp [compare, compareOfLessAndEq]
  · simp only [compare, compareOfLessAndEq, h, decide_false]
    split <;> rfl

theorem cut_exact (s : Bool) (low drop n : Nat) (hn : n = low * 2 ^ drop) (hd : drop ≤ n.log2 + 2) : Toward.even.cut s n drop = low := by
  unfold Toward.cut
  have e : min drop (n.log2 + 2) = drop := by omega
  simp only [e, Nat.shiftLeft_eq, Nat.one_mul]
  have hp : 0 < 2 ^ drop := Nat.two_pow_pos _
  have h1 : n / 2 ^ drop = low := by rw [hn]; exact Nat.mul_div_cancel _ hp
  have h2 : n % 2 ^ drop = 0 := by rw [hn]; exact Nat.mul_mod_left _ _
  rw [h1, h2]
  have h3 : ¬ 2 ^ drop < 2 * 0 := by omega
  have h4 : (2 ^ drop == 2 * 0) = false := by
    rw [beq_eq_false_iff_ne]; omega
  simp [h4]

theorem log2_of (n k : Nat) (h0 : 2 ^ k ≤ n) (h1 : n < 2 ^ (k + 1)) : n.log2 = k := by
  have hn : n ≠ 0 := by have := Nat.two_pow_pos k; omega
  exact (Nat.log2_eq_iff hn).2 ⟨h0, h1⟩

theorem log2_spec (n : Nat) (hn : n ≠ 0) : 2 ^ n.log2 ≤ n ∧ n < 2 ^ (n.log2 + 1) := (Nat.log2_eq_iff hn).1 rfl

theorem log2_shift (n k : Nat) (hn : n ≠ 0) : (n * 2 ^ k).log2 = n.log2 + k := by
  obtain ⟨a, b⟩ := log2_spec n hn
  apply log2_of
  · rw [Nat.pow_add]; exact Nat.mul_le_mul_right _ a
  · rw [Nat.add_right_comm, Nat.pow_add]; exact Nat.mul_lt_mul_of_pos_right b (Nat.two_pow_pos _)

theorem read_word (s : Bool) (L K : Nat) (hL : L ≤ 52) (hK1 : 2 ^ 52 ≤ K) (hK2 : K < 2 ^ 53) :
    double.read (double.word s ((L + 1022) * 2 ^ 52 + K)) = .number s K ((L : Int) - 52) := by
  have hsw : double.signWeight = 2 ^ 63 := rfl
  have hbin : double.binade = 2 ^ 52 := rfl
  have hinf : double.infRung = 2047 * 2 ^ 52 := rfl
  have hlp : double.leastPlace = -1074 := rfl
  have hlt : (L + 1022) * 2 ^ 52 + K < 2 ^ 63 := by omega
  unfold Format.read Format.word
  rw [hsw, hbin, hinf, hlp]
  have hr : (if s = true then 2 ^ 63 + ((L + 1022) * 2 ^ 52 + K) else (L + 1022) * 2 ^ 52 + K) % 2 ^ 63 = (L + 1022) * 2 ^ 52 + K := by
    cases s <;> simp <;> omega
  have hs : ((if s = true then 2 ^ 63 + ((L + 1022) * 2 ^ 52 + K) else (L + 1022) * 2 ^ 52 + K) / 2 ^ 63 % 2 == 1) = s := by
    cases s
    · have : ((L + 1022) * 2 ^ 52 + K) / 2 ^ 63 = 0 := Nat.div_eq_of_lt hlt
      simp only [Bool.false_eq_true, if_false, this]; rfl
    · have : (2 ^ 63 + ((L + 1022) * 2 ^ 52 + K)) / 2 ^ 63 = 1 := by omega
      simp only [if_true, this]; rfl
  dsimp only
  rw [hr, hs, if_neg (by omega), if_pos (by omega)]
  congr 1
  · omega
  · have : ((L + 1022) * 2 ^ 52 + K) / 2 ^ 52 = L + 1023 := by omega
    rw [this]; omega

theorem read_zero (s : Bool) : double.read (double.word s 0) = .number s 0 (-1074) := by cases s <;> rfl

/-- WHAT IS WRITTEN IS READ BACK: nothing is rounded. -/
theorem Is.written {d : Datum} {n : Int} (hd : Is d n) (hn : n.natAbs < 2 ^ 53) : Is (double.read (double.write d)) n := by
  obtain ⟨s, m, e, b, rfl, h1, h2, h3⟩ := hd
  have hm : m * 2 ^ (e - b).toNat = n.natAbs * 2 ^ (-b).toNat := by
    have := congrArg Int.natAbs h3
    rw [signed_eq, Int.natAbs_mul, Int.natAbs_mul, Int.natAbs_mul, Int.natAbs_pow, Int.natAbs_pow] at this
    cases s <;> simpa using this
  show Is (double.read (double.nearest s m e)) n
  unfold Format.nearest
  dsimp only
  by_cases h0 : m = 0
  · subst h0
    have hz : n = 0 := by
      have : n.natAbs * 2 ^ (-b).toNat = 0 := by rw [← hm]; simp
      rcases Nat.mul_eq_zero.1 this with h | h
      · omega
      · have := Nat.two_pow_pos (-b).toNat; omega
    subst hz
    rw [if_pos rfl, read_zero]
    exact ⟨s, 0, -1074, -1074, rfl, by omega, by omega, by rw [signed_eq, Int.natCast_zero, Int.zero_mul, Int.zero_mul, Int.mul_zero]⟩
  · rw [if_neg h0]
    have hN : n.natAbs ≠ 0 := by
      intro hz
      rw [hz] at hm
      simp only [Nat.zero_mul] at hm
      rcases Nat.mul_eq_zero.1 hm with h | h
      · exact h0 h
      · have := Nat.two_pow_pos (e - b).toNat; omega
    have hlog : m.log2 + (e - b).toNat = n.natAbs.log2 + (-b).toNat := by
      rw [← log2_shift m _ h0, ← log2_shift _ _ hN, hm]
    obtain ⟨l1, l2⟩ := log2_spec n.natAbs hN
    have hL : n.natAbs.log2 ≤ 52 := by
      have : ¬ 53 ≤ n.natAbs.log2 := by
        intro h
        have := Nat.pow_le_pow_right (n := 2) (by decide) h
        omega
      omega
    have hlp : double.leastPlace = -1074 := rfl
    have hfb : double.fractionBits = 52 := rfl
    have hbin : double.binade = 2 ^ 52 := rfl
    have hinf : double.infRung = 2047 * 2 ^ 52 := rfl
    generalize hLL : n.natAbs.log2 = L at *
    generalize hNN : n.natAbs = N at *
    have hlast : max (e + (m.log2 : Int) - (double.fractionBits : Int)) double.leastPlace = (L : Int) - 52 := by
      rw [hlp, hfb]; omega
    rw [hlast]
    have hK : N * 2 ^ (52 - L) < 2 ^ 53 := by
      have : (2 : Nat) ^ 53 = 2 ^ (L + 1) * 2 ^ (52 - L) := by rw [← Nat.pow_add]; congr 1; omega
      rw [this]; exact Nat.mul_lt_mul_of_pos_right l2 (Nat.two_pow_pos _)
    have hK' : 2 ^ 52 ≤ N * 2 ^ (52 - L) := by
      have : (2 : Nat) ^ 52 = 2 ^ L * 2 ^ (52 - L) := by rw [← Nat.pow_add]; congr 1; omega
      rw [this]; exact Nat.mul_le_mul_right _ l1
    have hcut : Toward.even.cut s (m <<< (e - ((L : Int) - 52)).toNat) ((L : Int) - 52 - e).toNat = N * 2 ^ (52 - L) := by
      rw [Nat.shiftLeft_eq]
      apply cut_exact
      · -- both sides times 2 ^ (e - b) ..: from the equation at the deeper place
        have hb : 0 < 2 ^ (-b).toNat := Nat.two_pow_pos _
        by_cases hp : e ≤ (L : Int) - 52
        · have z1 : (e - ((L : Int) - 52)).toNat = 0 := by omega
          rw [z1, Nat.pow_zero, Nat.mul_one]
          apply Nat.eq_of_mul_eq_mul_right (Nat.two_pow_pos (e - b).toNat)
          rw [hm, Nat.mul_assoc, Nat.mul_assoc, ← Nat.pow_add, ← Nat.pow_add]
          congr 2; omega
        · have z1 : ((L : Int) - 52 - e).toNat = 0 := by omega
          rw [z1, Nat.pow_zero, Nat.mul_one]
          by_cases hbl : b ≤ (L : Int) - 52
          · apply Nat.eq_of_mul_eq_mul_right (Nat.two_pow_pos ((L : Int) - 52 - b).toNat)
            rw [Nat.mul_assoc, Nat.mul_assoc, ← Nat.pow_add, ← Nat.pow_add]
            have : (e - ((L : Int) - 52)).toNat + ((L : Int) - 52 - b).toNat = (e - b).toNat := by omega
            rw [this, hm]; congr 2; omega
          · have x1 : (e - ((L : Int) - 52)).toNat = (e - b).toNat + (b - ((L : Int) - 52)).toNat := by omega
            rw [x1, Nat.pow_add, ← Nat.mul_assoc, hm, Nat.mul_assoc, ← Nat.pow_add]
            congr 2; omega
      · rw [log2_shift _ _ h0]; omega
    rw [hcut, hlp, hbin, hinf]
    have hl2 : ((L : Int) - 52 - -1074).toNat = L + 1022 := by omega
    rw [hl2, Nat.min_eq_left (by omega), read_word s L _ hL hK' hK]
    refine ⟨s, _, _, (L : Int) - 52, rfl, by omega, by omega, ?_⟩
    have z : ((L : Int) - 52 - ((L : Int) - 52)).toNat = 0 := by omega
    have z2 : (-((L : Int) - 52)).toNat = 52 - L := by omega
    rw [z, z2, signed_eq, Int.pow_zero, Int.mul_one]
    -- the sign
    have hsg : (if s = true then (-1 : Int) else 1) * (N : Int) = n := by
      rw [signed_eq] at h3
      have hmI : (m : Int) * 2 ^ (e - b).toNat = (N : Int) * 2 ^ (-b).toNat := by exact_mod_cast hm
      rw [hmI, ← Int.mul_assoc] at h3
      exact Int.eq_of_mul_eq_mul_right (by have := pow_pos_int (-b).toNat; omega) h3
    rw [← hsg]
    push_cast
    rw [Int.mul_assoc]

/-- A WORD THAT READS AS THE WHOLE NUMBER n. -/
def R (x : Nat) (n : Int) : Prop := Is (double.read x) n

theorem R.nearest (n : Int) (hn : n.natAbs < 2 ^ 53) : R (floatOfInt .f64 n) n := by
  refine Is.written (d := .number (n < 0) n.natAbs 0) ⟨_, _, _, 0, rfl, by omega, by omega, ?_⟩ hn
  rw [signed_eq]
  by_cases h : n < 0
  · simp [h]; omega
  · simp [h]; omega

theorem R.add {x y : Nat} {a b : Int} (hx : R x a) (hy : R y b) (h : (a + b).natAbs < 2 ^ 53) : ∃ z, floatBits .add .f64 x y = some z ∧ R z (a + b) := by
  obtain ⟨r, h1, h2⟩ := Is.sum hx hy
  refine ⟨double.write r, ?_, h2.written h⟩
  show Format.add double x y = _
  unfold Format.add
  rw [h1]; rfl

theorem R.sub {x y : Nat} {a b : Int} (hx : R x a) (hy : R y b) (h : (a - b).natAbs < 2 ^ 53) : ∃ z, floatBits .sub .f64 x y = some z ∧ R z (a - b) := by
  obtain ⟨r, h1, h2⟩ := Is.sum hx (Is.opposite hy)
  refine ⟨double.write r, ?_, ?_⟩
  · show Format.sub double x y = _
    unfold Format.sub
    rw [h1]; rfl
  · rw [Int.sub_eq_add_neg] at *; exact h2.written h

theorem R.mul {x y : Nat} {a b : Int} (hx : R x a) (hy : R y b) (h : (a * b).natAbs < 2 ^ 53) : ∃ z, floatBits .mul .f64 x y = some z ∧ R z (a * b) := by
  obtain ⟨r, h1, h2⟩ := Is.product hx hy
  refine ⟨double.write r, ?_, h2.written h⟩
  show Format.mul double x y = _
  unfold Format.mul
  rw [h1]; rfl

theorem R.eq {x y : Nat} {a b : Int} (hx : R x a) (hy : R y b) : (FloatKind.f64.format.order x y == some .eq) = decide (a = b) := Is.order_eq hx hy

theorem natAbs_mul_le {a b : Int} {m n : Nat} (ha : a.natAbs ≤ m) (hb : b.natAbs ≤ n) : (a * b).natAbs ≤ m * n := by
  rw [Int.natAbs_mul]; exact Nat.mul_le_mul ha hb

/-- A product of two numbers of two parts. -/
theorem R.cmul {a b c d : Nat} {p q r s : Int} {m n : Nat} (ha : R a p) (hb : R b q) (hc : R c r) (hd : R d s) (hp : p.natAbs ≤ m) (hq : q.natAbs ≤ m) (hr : r.natAbs ≤ n) (hs : s.natAbs ≤ n) (hmn : m * n ≤ 2 ^ 52 - 1) :
    ∃ re im, cMulBits a b c d = some (re, im) ∧ R re (p * r - q * s) ∧ R im (p * s + q * r) := by
  have h1 := natAbs_mul_le hp hr
  have h2 := natAbs_mul_le hq hs
  have h3 := natAbs_mul_le hp hs
  have h4 := natAbs_mul_le hq hr
  obtain ⟨ac, e1, r1⟩ := R.mul ha hc (by omega)
  obtain ⟨bd, e2, r2⟩ := R.mul hb hd (by omega)
  obtain ⟨ad, e3, r3⟩ := R.mul ha hd (by omega)
  obtain ⟨bc, e4, r4⟩ := R.mul hb hc (by omega)
  obtain ⟨re, e5, r5⟩ := R.sub r1 r2 (by omega)
  obtain ⟨im, e6, r6⟩ := R.add r3 r4 (by omega)
  exact ⟨re, im, by simp [cMulBits, e1, e2, e3, e4, e5, e6], r5, r6⟩

theorem R.csum {a b c d : Nat} {p q r s : Int} (ha : R a p) (hb : R b q) (hc : R c r) (hd : R d s) (h1 : (p + r).natAbs < 2 ^ 53) (h2 : (q + s).natAbs < 2 ^ 53) :
    ∃ re im, cSumBits .add .f64 a b c d = some (re, im) ∧ R re (p + r) ∧ R im (q + s) := by
  obtain ⟨x, e1, r1⟩ := R.add ha hc h1
  obtain ⟨y, e2, r2⟩ := R.add hb hd h2
  exact ⟨x, y, by simp [cSumBits, e1, e2], r1, r2⟩

theorem R.zero : R 0 0 := ⟨false, 0, -1074, -1074, rfl, by omega, by omega, by rw [signed_eq, Int.natCast_zero, Int.zero_mul, Int.zero_mul, Int.mul_zero]⟩
theorem R.one : R 4607182418800017408 1 := R.nearest 1 (by decide)

/-- 'at' to the power k, part by part. -/
def pw (p q : Int) : Nat → Int × Int
  | 0 => (1, 0)
  | k + 1 => ((pw p q k).1 * p - (pw p q k).2 * q, (pw p q k).1 * q + (pw p q k).2 * p)

/-- The first k numbers, each times a power, together. -/
def ps (p q : Int) (zs : List Int) : Nat → Int × Int
  | 0 => (0, 0)
  | k + 1 => ((ps p q zs k).1 + zs[k]?.getD 0 * (pw p q k).1, (ps p q zs k).2 + zs[k]?.getD 0 * (pw p q k).2)

end Go.Proofs.Yteoceccofbnfnaa

/- The walks of package wave's functions. -/
import Derived.Test.YteoceccofbnfnaaChecked
import Derived.Test.YteoceccofbnfnaaFloat
import Derived.WalkKit
import Derived.WalkLawsBesides
import Derived.LoopTactic
import Derived.Outline
import Derived.Below
import Derived.Lib.Hide
namespace Go.Proofs.Yteoceccofbnfnaa
open Go.RowKit

/-- The sums by places modulo 4 of the first k numbers. -/
def fourth (zs : List Int) (r : Nat) : Nat → Int
  | 0 => 0
  | k + 1 => fourth zs r k + if k % 4 = r then zs[k]?.getD 0 else 0

set_option maxHeartbeats 800000 in
theorem fourths_any (a : Option Addr) (len cap : Nat) (zs : List Int) (w : World) (hl : len ≤ 200)
    (ha : 0 < len → ∃ b off, a = some ⟨b, off, none⟩ ∧ b < w.heap.size ∧ ∀ j, j < len → w.cell? ⟨b, off + j, none⟩ = some (.int .i64 (zs[j]?.getD 0)))
    (hz : ∀ j : Nat, -1048576 < zs[j]?.getD 0 ∧ zs[j]?.getD 0 < 1048576) :
    Calls Try.prog 12 #[.slice a len cap] w fun e w' => e = .returned (.agg #[.int .i64 (fourth zs 0 len), .int .i64 (fourth zs 1 len), .int .i64 (fourth zs 2 len), .int .i64 (fourth zs 3 len)]) ∧ Below w.heap.size w w' := by
  have hstep : ∀ r k, fourth zs r (k + 1) = fourth zs r k + if k % 4 = r then zs[k]?.getD 0 else 0 := fun _ _ => rfl
  have hb : ∀ (r k : Nat), k ≤ 200 → -(k : Int) * 1048576 ≤ fourth zs r k ∧ fourth zs r k ≤ k * 1048576 := by
    intro r k
    induction k with
    | zero => intro _; simp [fourth]
    | succ k ih =>
      intro hk
      have := ih (by omega)
      have := hz k
      rw [hstep]
      split <;> omega
  have HS := Lib.hid hstep
  have HB := Lib.hid hb
  have HZ := Lib.hid hz
  have HA := Lib.hid ha
  clear hstep hb hz ha
  go_enter Try.func12, Try.ntmps12
  go_wp2
  go_loopw [8] (fun i wr => ∃ k : Nat, k ≤ len ∧ i = .int .i64 k ∧ wr = (w.alloc (.cells #[.int .i64 0, .int .i64 0, .int .i64 0, .int .i64 0] 24)).alloc (.cells #[.int .i64 (fourth zs 0 k), .int .i64 (fourth zs 1 k), .int .i64 (fourth zs 2 k), .int .i64 (fourth zs 3 k)] 24)) (fun i _ => len - (intOf i).toNat)
  case atStart => exact ⟨0, Nat.zero_le _, rfl, rfl⟩
  case round =>
    obtain ⟨k, hk, rfl, rfl⟩ := hrel
    by_cases hlt : k < len
    · obtain ⟨b, off, rfl, hbb, hc⟩ := HA.out (by omega)
      have hcell := hc k hlt
      clear hc
      have hcc : (((w.alloc (.cells #[.int .i64 0, .int .i64 0, .int .i64 0, .int .i64 0] 24)).alloc (.cells #[.int .i64 (fourth zs 0 k), .int .i64 (fourth zs 1 k), .int .i64 (fourth zs 2 k), .int .i64 (fourth zs 3 k)] 24))).cell? ⟨b, off + k, none⟩ = some (.int .i64 (zs[k]?.getD 0)) := by
        rw [World.cell?_alloc_past _ _ _ (by simp; omega), World.cell?_alloc_past _ _ _ hbb]; exact hcell
      obtain ⟨b0, b1⟩ := HB.out 0 k (by omega)
      obtain ⟨b2, b3⟩ := HB.out 1 k (by omega)
      obtain ⟨b4, b5⟩ := HB.out 2 k (by omega)
      obtain ⟨b6, b7⟩ := HB.out 3 k (by omega)
      obtain ⟨z0, z1⟩ := HZ.out k
      obtain h4 | h4 | h4 | h4 : k % 4 = 0 ∨ k % 4 = 1 ∨ k % 4 = 2 ∨ k % 4 = 3 := by omega
      · have h5 : (k : Int) % 4 = 0 := by omega
        go_wp2
        go_roundw
        case rel => exact ⟨k + 1, by omega, by go_num, by rw [HS.out, HS.out, HS.out, HS.out]; simp [h4]⟩
        case measure => simp [intOf]; omega
      · have h5 : (k : Int) % 4 = 1 := by omega
        go_wp2
        go_roundw
        case rel => exact ⟨k + 1, by omega, by go_num, by rw [HS.out, HS.out, HS.out, HS.out]; simp [h4]⟩
        case measure => simp [intOf]; omega
      · have h5 : (k : Int) % 4 = 2 := by omega
        go_wp2
        go_roundw
        case rel => exact ⟨k + 1, by omega, by go_num, by rw [HS.out, HS.out, HS.out, HS.out]; simp [h4]⟩
        case measure => simp [intOf]; omega
      · have h5 : (k : Int) % 4 = 3 := by omega
        go_wp2
        go_roundw
        case rel => exact ⟨k + 1, by omega, by go_num, by rw [HS.out, HS.out, HS.out, HS.out]; simp [h4]⟩
        case measure => simp [intOf]; omega
    · obtain rfl : k = len := by omega
      go_wp2
      refine bodyPost_ret (v := .agg #[.int .i64 (fourth zs 0 k), .int .i64 (fourth zs 1 k), .int .i64 (fourth zs 2 k), .int .i64 (fourth zs 3 k)]) (by simp [results, Try.results12, go_sem]) rfl ⟨rfl, ?_⟩
      exact ((Below.refl _ _).alloc (Nat.le_refl _) _).alloc (by simp) _

theorem fourth_bd (zs : List Int) (hz : ∀ j : Nat, -1048576 < zs[j]?.getD 0 ∧ zs[j]?.getD 0 < 1048576) (r k : Nat) (hk : k ≤ 300) : -314572800 ≤ fourth zs r k ∧ fourth zs r k ≤ 314572800 := by
  have hb : ∀ (r k : Nat), -(k : Int) * 1048576 ≤ fourth zs r k ∧ fourth zs r k ≤ k * 1048576 := by
    intro r k
    induction k with
    | zero => simp [fourth]
    | succ k ih =>
      have := hz k
      show -((k : Nat) + 1 : Int) * 1048576 ≤ fourth zs r k + (if k % 4 = r then zs[k]?.getD 0 else 0) ∧ _
      show _ ∧ fourth zs r k + (if k % 4 = r then zs[k]?.getD 0 else 0) ≤ ((k : Nat) + 1 : Int) * 1048576
      split <;> omega
  have := hb r k
  omega

set_option maxHeartbeats 800000 in
theorem turn_any (a : Option Addr) (len cap : Nat) (zs : List Int) (w : World) (hl : len ≤ 200)
    (ha : 0 < len → ∃ b off, a = some ⟨b, off, none⟩ ∧ b < w.heap.size ∧ ∀ j, j < len → w.cell? ⟨b, off + j, none⟩ = some (.int .i64 (zs[j]?.getD 0)))
    (hz : ∀ j : Nat, -1048576 < zs[j]?.getD 0 ∧ zs[j]?.getD 0 < 1048576) :
    Calls Try.prog 11 #[.slice a len cap] w fun e w' => e = .returned (.complex .f64 (floatOfInt .f64 (fourth zs 0 len - fourth zs 2 len)) (floatOfInt .f64 (fourth zs 1 len - fourth zs 3 len))) ∧ Below w.heap.size w w' := by
  obtain ⟨b0, b1⟩ := fourth_bd zs hz 0 len (by omega)
  obtain ⟨b2, b3⟩ := fourth_bd zs hz 1 len (by omega)
  obtain ⟨b4, b5⟩ := fourth_bd zs hz 2 len (by omega)
  obtain ⟨b6, b7⟩ := fourth_bd zs hz 3 len (by omega)
  have HA := Lib.hid ha
  have HZ := Lib.hid hz
  clear ha hz
  go_enter Try.func11, Try.ntmps11
  go_wp2_with fail
  refine (fourths_any _ _ _ zs _ hl HA.out HZ.out).mono ?_
  rintro e w1 ⟨rfl, hbel⟩
  go_wp2
  go_ret
  exact ⟨rfl, hbel.alloc hbel.size _⟩

theorem mul_any (a b c d re im : Nat) (w : World) (h : cMulBits a b c d = some (re, im)) :
    Calls Try.prog 14 #[.complex .f64 a b, .complex .f64 c d] w fun e w' => e = .returned (.complex .f64 re im) ∧ w = w' := by
  have hm := fun wx => run_complex_mul (P := Try.prog) wx 26 a b c d re im h
  clear h
  go_enter Try.func14, Try.ntmps14
  go_wp2
  go_ret
  exact ⟨rfl, rfl⟩

theorem back_any (a b im : Nat) (w : World) (h : floatBits .sub .f64 0 b = some im) :
    Calls Try.prog 17 #[.complex .f64 a b] w fun e w' => e = .returned (.complex .f64 a im) ∧ w = w' := by
  have hm := fun wx t => run_float_arith (P := Try.prog) wx .sub t .f64 0 b im h
  clear h
  go_enter Try.func17, Try.ntmps17
  go_wp2
  go_ret
  exact ⟨rfl, rfl⟩

theorem size_any (a b b' re im : Nat) (w : World) (h1 : floatBits .sub .f64 0 b = some b') (h2 : cMulBits a b a b' = some (re, im)) :
    Calls Try.prog 18 #[.complex .f64 a b] w fun e w' => e = .returned (.float .f64 re) ∧ w = w' := by
  go_enter Try.func18, Try.ntmps18
  go_wp2_with fail
  refine (back_any a b b' _ h1).mono ?_
  rintro e w1 ⟨rfl, rfl⟩
  go_wp2_with fail
  refine (mul_any a b a b' re im _ h2).mono ?_
  rintro e w1 ⟨rfl, rfl⟩
  go_wp2
  go_ret
  exact ⟨rfl, rfl⟩

theorem known_any (w : World) : Calls Try.prog 13 #[] w fun e w' => e = .returned (.bool true) ∧ Below w.heap.size w w' := by
  have hR : R (floatOfInt .f64 (fourth [1, 1, 1, 1, 1] 0 5 - fourth [1, 1, 1, 1, 1] 2 5)) 1 := R.nearest 1 (by decide)
  have hI : R (floatOfInt .f64 (fourth [1, 1, 1, 1, 1] 1 5 - fourth [1, 1, 1, 1, 1] 3 5)) 0 := R.nearest 0 (by decide)
  have e1 := R.eq hR R.one
  have e2 := R.eq hI R.zero
  have hz : ∀ j : Nat, -1048576 < ([1, 1, 1, 1, 1] : List Int)[j]?.getD 0 ∧ ([1, 1, 1, 1, 1] : List Int)[j]?.getD 0 < 1048576 := by
    intro j
    match j with
    | 0 | 1 | 2 | 3 | 4 => simp
    | n + 5 => simp
  have HZ := Lib.hid hz
  clear hz hR hI
  generalize hx : floatOfInt .f64 (fourth [1, 1, 1, 1, 1] 0 5 - fourth [1, 1, 1, 1, 1] 2 5) = x at *
  generalize hy : floatOfInt .f64 (fourth [1, 1, 1, 1, 1] 1 5 - fourth [1, 1, 1, 1, 1] 3 5) = y at *
  have HX := Lib.hid hx
  have HY := Lib.hid hy
  clear hx hy
  go_enter Try.func13, Try.ntmps13
  go_wp2_with fail
  refine (turn_any _ 5 5 [1, 1, 1, 1, 1] _ (by omega) (fun _ => ⟨_, _, rfl, by simp, ?_⟩) HZ.out).mono ?_
  · intro j hj
    match j, hj with
    | 0, _ | 1, _ | 2, _ | 3, _ | 4, _ => simp [World.cell?_alloc_at]
  rintro e w1 ⟨rfl, hbel⟩
  rw [HX.out, HY.out]
  go_wp2
  go_ret
  exact ⟨by simp, ((Below.refl _ _).alloc (Nat.le_refl _) _).trans (hbel.mono (by simp))⟩

/-- The words of the powers and of the sums, as the code reckons them. -/
def cm (a b : Nat × Nat) : Nat × Nat := (cMulBits a.1 a.2 b.1 b.2).getD (0, 0)
def cs (a b : Nat × Nat) : Nat × Nat := (cSumBits .add .f64 a.1 a.2 b.1 b.2).getD (0, 0)
def pwW (x y : Nat) : Nat → Nat × Nat
  | 0 => (4607182418800017408, 0)
  | k + 1 => cm (pwW x y k) (x, y)
def psW (x y : Nat) (zs : List Int) : Nat → Nat × Nat
  | 0 => (0, 0)
  | k + 1 => cs (psW x y zs k) (cm (floatOfInt .f64 (zs[k]?.getD 0), 0) (pwW x y k))

/-- What a word of two parts stands for. -/
def RR (x : Nat × Nat) (n : Int × Int) : Prop := R x.1 n.1 ∧ R x.2 n.2

theorem cm_spec {a b : Nat × Nat} {p q : Int × Int} {m n : Nat} (ha : RR a p) (hb : RR b q) (h1 : p.1.natAbs ≤ m) (h2 : p.2.natAbs ≤ m) (h3 : q.1.natAbs ≤ n) (h4 : q.2.natAbs ≤ n) (hmn : m * n ≤ 2 ^ 52 - 1) :
    cMulBits a.1 a.2 b.1 b.2 = some ((cm a b).1, (cm a b).2) ∧ RR (cm a b) (p.1 * q.1 - p.2 * q.2, p.1 * q.2 + p.2 * q.1) := by
  obtain ⟨re, im, e, r1, r2⟩ := R.cmul ha.1 ha.2 hb.1 hb.2 h1 h2 h3 h4 hmn
  have : cm a b = (re, im) := by simp [cm, e]
  rw [this]
  exact ⟨e, r1, r2⟩

theorem cs_spec {a b : Nat × Nat} {p q : Int × Int} (ha : RR a p) (hb : RR b q) (h1 : (p.1 + q.1).natAbs < 2 ^ 53) (h2 : (p.2 + q.2).natAbs < 2 ^ 53) :
    cSumBits .add .f64 a.1 a.2 b.1 b.2 = some ((cs a b).1, (cs a b).2) ∧ RR (cs a b) (p.1 + q.1, p.2 + q.2) := by
  obtain ⟨re, im, e, r1, r2⟩ := R.csum ha.1 ha.2 hb.1 hb.2 h1 h2
  have : cs a b = (re, im) := by simp [cs, e]
  rw [this]
  exact ⟨e, r1, r2⟩

/-- The bounds under which nothing is rounded. -/
def Fine (p q : Int) (zs : List Int) (len : Nat) : Prop :=
  p.natAbs ≤ 1024 ∧ q.natAbs ≤ 1024 ∧ (∀ j : Nat, (zs[j]?.getD 0).natAbs < 1048576) ∧
  (∀ k, k ≤ len → (pw p q k).1.natAbs ≤ 4294967296 ∧ (pw p q k).2.natAbs ≤ 4294967296) ∧
  (∀ k, k ≤ len → (ps p q zs k).1.natAbs < 2 ^ 53 ∧ (ps p q zs k).2.natAbs < 2 ^ 53)

theorem pwW_spec {x y : Nat} {p q : Int} {zs : List Int} {len : Nat} (hx : R x p) (hy : R y q) (hf : Fine p q zs len) : ∀ k, k ≤ len → RR (pwW x y k) (pw p q k) ∧
    cMulBits (pwW x y k).1 (pwW x y k).2 x y = some ((pwW x y (k + 1)).1, (pwW x y (k + 1)).2) ∧ RR (pwW x y (k + 1)) (pw p q (k + 1)) := by
  intro k
  induction k with
  | zero =>
    intro hk
    have h0 : RR (pwW x y 0) (pw p q 0) := ⟨R.one, R.zero⟩
    obtain ⟨u1, u2⟩ := hf.2.2.2.1 0 hk
    have := cm_spec (a := pwW x y 0) (b := (x, y)) (p := pw p q 0) (q := (p, q)) h0 ⟨hx, hy⟩ u1 u2 hf.1 hf.2.1 (by decide)
    exact ⟨h0, this⟩
  | succ k ih =>
    intro hk
    obtain ⟨_, _, h0⟩ := ih (by omega)
    obtain ⟨u1, u2⟩ := hf.2.2.2.1 (k + 1) hk
    have := cm_spec (a := pwW x y (k + 1)) (b := (x, y)) (p := pw p q (k + 1)) (q := (p, q)) h0 ⟨hx, hy⟩ u1 u2 hf.1 hf.2.1 (by decide)
    exact ⟨h0, this⟩

theorem psW_spec {x y : Nat} {p q : Int} {zs : List Int} {len : Nat} (hx : R x p) (hy : R y q) (hf : Fine p q zs len) : ∀ k, k ≤ len → RR (psW x y zs k) (ps p q zs k) := by
  intro k
  induction k with
  | zero => intro _; exact ⟨R.zero, R.zero⟩
  | succ k ih =>
    intro hk
    have h0 := ih (by omega)
    have z1 := hf.2.2.1 k
    obtain ⟨u1, u2⟩ := hf.2.2.2.1 k (by omega)
    obtain ⟨s1, s2⟩ := hf.2.2.2.2 (k + 1) hk
    have hp := (pwW_spec hx hy hf k (by omega)).1
    have hm := (cm_spec (a := (floatOfInt .f64 (zs[k]?.getD 0), 0)) (b := pwW x y k) (p := (zs[k]?.getD 0, 0)) (q := pw p q k) (m := 1048575) ⟨R.nearest _ (by omega), R.zero⟩ hp (by simp only []; omega) (by simp) u1 u2 (by decide)).2
    simp only [Int.zero_mul, Int.sub_zero, Int.add_zero] at hm
    exact (cs_spec h0 hm s1 s2).2

/-- One round. -/
theorem round_spec {x y : Nat} {p q : Int} {zs : List Int} {len : Nat} (hx : R x p) (hy : R y q) (hf : Fine p q zs len) (k : Nat) (hk : k < len) :
    cMulBits (floatOfInt .f64 (zs[k]?.getD 0)) 0 (pwW x y k).1 (pwW x y k).2 = some ((cm (floatOfInt .f64 (zs[k]?.getD 0), 0) (pwW x y k)).1, (cm (floatOfInt .f64 (zs[k]?.getD 0), 0) (pwW x y k)).2) ∧
    cSumBits .add .f64 (psW x y zs k).1 (psW x y zs k).2 (cm (floatOfInt .f64 (zs[k]?.getD 0), 0) (pwW x y k)).1 (cm (floatOfInt .f64 (zs[k]?.getD 0), 0) (pwW x y k)).2 = some ((psW x y zs (k + 1)).1, (psW x y zs (k + 1)).2) := by
  have h0 := psW_spec hx hy hf k (by omega)
  have z1 := hf.2.2.1 k
  obtain ⟨u1, u2⟩ := hf.2.2.2.1 k (by omega)
  obtain ⟨s1, s2⟩ := hf.2.2.2.2 (k + 1) hk
  have hp := (pwW_spec hx hy hf k (by omega)).1
  have hm := cm_spec (a := (floatOfInt .f64 (zs[k]?.getD 0), 0)) (b := pwW x y k) (p := (zs[k]?.getD 0, 0)) (q := pw p q k) (m := 1048575) ⟨R.nearest _ (by omega), R.zero⟩ hp (by simp only []; omega) (by simp) u1 u2 (by decide)
  simp only [Int.zero_mul, Int.sub_zero, Int.add_zero] at hm
  exact ⟨hm.1, (cs_spec h0 hm.2 s1 s2).1⟩

set_option maxHeartbeats 800000 in
theorem poly_any (x y : Nat) (p q : Int) (a : Option Addr) (len cap : Nat) (zs : List Int) (w : World) (hl : len ≤ 200) (hx : R x p) (hy : R y q) (hf : Fine p q zs len)
    (ha : 0 < len → ∃ b off, a = some ⟨b, off, none⟩ ∧ ∀ j, j < len → w.cell? ⟨b, off + j, none⟩ = some (.int .i64 (zs[j]?.getD 0))) :
    Calls Try.prog 19 #[.complex .f64 x y, .slice a len cap] w fun e w' => e = .returned (.complex .f64 (psW x y zs len).1 (psW x y zs len).2) ∧ w = w' := by
  have HA := Lib.hid ha
  have HF := Lib.hid hf
  clear ha hf
  go_enter Try.func19, Try.ntmps19
  go_wp2
  go_loop [5, 6, 11] (fun s t i => ∃ k : Nat, k ≤ len ∧ i = .int .i64 k ∧ s = .complex .f64 (psW x y zs k).1 (psW x y zs k).2 ∧ t = .complex .f64 (pwW x y k).1 (pwW x y k).2) (fun _ _ i => len - (intOf i).toNat)
  case atStart => exact ⟨0, Nat.zero_le _, rfl, rfl, rfl⟩
  case round =>
    obtain ⟨k, hk, rfl, rfl, rfl⟩ := hrel
    by_cases hlt : k < len
    · obtain ⟨b, off, rfl, hc⟩ := HA.out (by omega)
      have hcell := hc k hlt
      clear hc
      obtain ⟨e1, e3⟩ := round_spec hx hy HF.out k hlt
      have e2 := (pwW_spec hx hy HF.out k (by omega)).2.1
      have hm1 := fun wx t => run_complex_mul (P := Try.prog) wx t _ _ _ _ _ _ e1
      have hm2 := fun wx t => run_complex_mul (P := Try.prog) wx t _ _ _ _ _ _ e2
      have hm3 := fun wx t => run_complex_sum (P := Try.prog) wx .add (.inl rfl) t _ _ _ _ _ _ _ e3
      clear e1 e2 e3
      go_wp2
      go_round
      case rel => exact ⟨k + 1, by omega, by go_num, rfl, rfl⟩
      case measure => simp [intOf]; omega
    · obtain rfl : k = len := by omega
      go_wp2
      go_ret
      exact ⟨rfl, rfl⟩

end Go.Proofs.Yteoceccofbnfnaa

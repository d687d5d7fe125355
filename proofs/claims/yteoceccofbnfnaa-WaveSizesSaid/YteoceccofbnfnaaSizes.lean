/- The walk of WaveSizes. -/
import Derived.Test.YteoceccofbnfnaaMuls
namespace Go.Proofs.Yteoceccofbnfnaa
open Go.RowKit

theorem norm_mul (p q u v : Int) : (p * u - q * v) * (p * u - q * v) - (p * v + q * u) * (0 - (p * v + q * u)) = (p * p - q * (0 - q)) * (u * u - v * (0 - v)) := by grind
theorem mul_turn (p q u v : Int) : u * p - v * q = p * u - q * v ∧ u * q + v * p = p * v + q * u := by constructor <;> grind
theorem back_im (p q : Int) : p * (0 - q) + q * p = 0 := by grind

theorem prod_bd' {a b : Int} (ha : a.natAbs ≤ 4095) (hb : b.natAbs ≤ 4095) : -16769025 ≤ a * b ∧ a * b ≤ 16769025 := by
  have := natAbs_mul_le ha hb
  omega

set_option maxHeartbeats 3200000 in
set_option maxRecDepth 100000 in
theorem sizes_walk (p q u v : Int) (w : World) :
    Calls Try.prog 6 #[.agg #[.int .i64 p, .int .i64 q], .agg #[.int .i64 u, .int .i64 v]] w fun e w' => e = .returned (.bool true) ∧ Below w.heap.size w w' := by
  have bp := tmod_bd p 4096 (by decide)
  have bq := tmod_bd q 4096 (by decide)
  have bu := tmod_bd u 4096 (by decide)
  have bv := tmod_bd v 4096 (by decide)
  have ap : (p.tmod 4096).natAbs ≤ 4095 := by omega
  have aq : (q.tmod 4096).natAbs ≤ 4095 := by omega
  have au : (u.tmod 4096).natAbs ≤ 4095 := by omega
  have av : (v.tmod 4096).natAbs ≤ 4095 := by omega
  generalize hP : p.tmod 4096 = P at *
  generalize hQ : q.tmod 4096 = Q at *
  generalize hU : u.tmod 4096 = U at *
  generalize hV : v.tmod 4096 = V at *
  have x1 := prod_bd' ap au
  have x2 := prod_bd' aq av
  have x3 := prod_bd' ap av
  have x4 := prod_bd' aq au
  -- the words: p = x * y; y * x; how great each is; the other sign
  obtain ⟨re, im, hm, r1, r2⟩ := R.cmul (R.nearest P (by omega)) (R.nearest Q (by omega)) (R.nearest U (by omega)) (R.nearest V (by omega)) ap aq au av (by decide)
  obtain ⟨re', im', hm', r1', r2'⟩ := R.cmul (R.nearest U (by omega)) (R.nearest V (by omega)) (R.nearest P (by omega)) (R.nearest Q (by omega)) au av ap aq (by decide)
  obtain ⟨qx, hqx, rqx⟩ := R.sub R.zero (R.nearest Q (by omega)) (by omega)
  obtain ⟨sx, ix, hsx, rsx, rix⟩ := R.cmul (R.nearest P (by omega)) (R.nearest Q (by omega)) (R.nearest P (by omega)) rqx ap aq ap (show (0 - Q).natAbs ≤ 4095 by omega) (by decide)
  obtain ⟨qy, hqy, rqy⟩ := R.sub R.zero (R.nearest V (by omega)) (by omega)
  obtain ⟨sy, iy, hsy, rsy, -⟩ := R.cmul (R.nearest U (by omega)) (R.nearest V (by omega)) (R.nearest U (by omega)) rqy au av au (show (0 - V).natAbs ≤ 4095 by omega) (by decide)
  obtain ⟨qp, hqp, rqp⟩ := R.sub R.zero r2 (by omega)
  obtain ⟨sp, ip, hsp, rsp, -⟩ := R.cmul (m := 33538050) (n := 33538050) r1 r2 r1 rqp (by omega) (by omega) (by omega) (by omega) (by decide)
  have y1 : (P * P - Q * (0 - Q)).natAbs ≤ 33538050 := by
    have a1 := natAbs_mul_le ap ap
    have a2 := natAbs_mul_le aq (show (0 - Q).natAbs ≤ 4095 by omega)
    omega
  have y2 : (U * U - V * (0 - V)).natAbs ≤ 33538050 := by
    have a1 := natAbs_mul_le au au
    have a2 := natAbs_mul_le av (show (0 - V).natAbs ≤ 4095 by omega)
    omega
  obtain ⟨sm, hsm, rsm⟩ := R.mul rsx rsy (by have := natAbs_mul_le y1 y2; omega)
  rw [norm_mul] at rsp
  rw [(mul_turn P Q U V).1] at r1'
  rw [(mul_turn P Q U V).2] at r2'
  rw [back_im] at rix
  have E1 := R.eq rsp rsm
  have E2 := R.eq r1 r1'
  have E3 := R.eq r2 r2'
  have E4 := R.eq rsx rsx
  have E5 := R.eq rix R.zero
  rw [decide_eq_true rfl] at E1 E2 E3 E4 E5
  have HP := Lib.hid hP
  have HQ := Lib.hid hQ
  have HU := Lib.hid hU
  have HV := Lib.hid hV
  have M1 := Lib.hid hm
  have M2 := Lib.hid hm'
  have B1 := Lib.hid hqx
  have B2 := Lib.hid hqy
  have B3 := Lib.hid hqp
  have S1 := Lib.hid hsx
  have S2 := Lib.hid hsy
  have S3 := Lib.hid hsp
  have F1 := Lib.hid E1
  have F2 := Lib.hid E2
  have F3 := Lib.hid E3
  have F4 := Lib.hid E4
  have F5 := Lib.hid E5
  have hfm := fun wx t => run_float_arith (P := Try.prog) wx .mul t .f64 _ _ _ hsm
  have HFM := Lib.hid hfm
  clear hm hm' hqx hqy hqp hsx hsy hsp hsm r1 r2 r1' r2' rqx rsx rix rqy rsy rqp rsp rsm y1 y2 E1 E2 E3 E4 E5 x1 x2 x3 x4 ap aq au av bp bq bu bv hP hQ hU hV hfm
  go_enter Try.func6, Try.ntmps6
  go_wp2_with fail
  rw [HP.out, HQ.out]
  refine (gauss_any P Q _).mono ?_
  rintro e w1 ⟨rfl, hb⟩
  obtain ⟨hc1, -⟩ := bcell hb
  have c0 : w1.cell? ⟨w.heap.size + 1, 0, none⟩ = some (.int .i64 u) := by rw [hc1 _ _ (by simp)]; simp [World.cell?_alloc_at]
  have c1 : w1.cell? ⟨w.heap.size + 1, 1, none⟩ = some (.int .i64 v) := by rw [hc1 _ _ (by simp)]; simp [World.cell?_alloc_at]
  have HB1 : Hid (Below w.heap.size w w1) := (((Below.refl _ _).alloc (Nat.le_refl _) _).alloc (by simp) _).trans (hb.mono (by simp; omega))
  clear hb hc1
  go_wp2_with fail
  rw [HU.out, HV.out]
  refine (gauss_any U V _).mono ?_
  rintro e w2 ⟨rfl, hb⟩
  have HB2 := Lib.hid (HB1.out.trans (hb.mono HB1.out.size))
  clear hb c0 c1
  go_wp2_with fail
  refine (mul_any _ _ _ _ re im _ M1.out).mono ?_
  rintro e w3 ⟨rfl, rfl⟩
  go_wp2_with fail
  refine (size_any _ _ qp sp ip _ B3.out S3.out).mono ?_
  rintro e w3 ⟨rfl, rfl⟩
  go_wp2_with fail
  refine (size_any _ _ qx sx ix _ B1.out S1.out).mono ?_
  rintro e w3 ⟨rfl, rfl⟩
  go_wp2_with fail
  refine (size_any _ _ qy sy iy _ B2.out S2.out).mono ?_
  rintro e w3 ⟨rfl, rfl⟩
  have hfm := HFM.out
  have E1 := F1.out
  go_wp2_with fail
  clear hfm E1
  refine (mul_any _ _ _ _ re' im' _ M2.out).mono ?_
  rintro e w3 ⟨rfl, rfl⟩
  have E2 := F2.out
  have E3 := F3.out
  go_wp2_with fail
  clear E2 E3
  refine (back_any _ _ qx _ B1.out).mono ?_
  rintro e w3 ⟨rfl, rfl⟩
  go_wp2_with fail
  refine (mul_any _ _ _ _ sx ix _ S1.out).mono ?_
  rintro e w3 ⟨rfl, rfl⟩
  go_wp2_with fail
  refine (size_any _ _ qx sx ix _ B1.out S1.out).mono ?_
  rintro e w3 ⟨rfl, rfl⟩
  have E4 := F4.out
  have E5 := F5.out
  go_wp2_with fail
  clear E4 E5
  refine (known_any _).mono ?_
  rintro e w3 ⟨rfl, hb⟩
  have HB3 := Lib.hid (HB2.out.trans (hb.mono HB2.out.size))
  clear hb
  go_wp2
  go_ret
  exact ⟨rfl, HB3.out⟩

end Go.Proofs.Yteoceccofbnfnaa

/- The walk of WaveShifts. -/
import Derived.Test.YteoceccofbnfnaaTurns
namespace Go.Proofs.Yteoceccofbnfnaa
open Go.RowKit

theorem fourth_up (ys : List Int) (r : Nat) (hr : r < 4) : ∀ k, fourth (0 :: ys) r (k + 1) = fourth ys ((r + 3) % 4) k := by
  intro k
  induction k with
  | zero => simp [fourth]
  | succ k ih =>
    show fourth (0 :: ys) r (k + 1) + (if (k + 1) % 4 = r then (0 :: ys)[k + 1]?.getD 0 else 0) = fourth ys ((r + 3) % 4) k + (if k % 4 = (r + 3) % 4 then ys[k]?.getD 0 else 0)
    rw [ih, List.getElem?_cons_succ]
    congr 1
    by_cases h : (k + 1) % 4 = r
    · rw [if_pos h, if_pos (by omega)]
    · rw [if_neg h, if_neg (by omega)]

theorem fourth_four (ys : List Int) (r : Nat) : ∀ k, fourth (0 :: 0 :: 0 :: 0 :: ys) r (k + 4) = fourth ys r k := by
  intro k
  induction k with
  | zero => simp [fourth]
  | succ k ih =>
    show fourth (0 :: 0 :: 0 :: 0 :: ys) r (k + 4) + (if (k + 4) % 4 = r then (0 :: 0 :: 0 :: 0 :: ys)[k + 4]?.getD 0 else 0) = fourth ys r k + (if k % 4 = r then ys[k]?.getD 0 else 0)
    rw [ih, List.getElem?_cons_succ, List.getElem?_cons_succ, List.getElem?_cons_succ, List.getElem?_cons_succ]
    congr 1
    by_cases h : k % 4 = r
    · rw [if_pos h, if_pos (by omega)]
    · rw [if_neg h, if_neg (by omega)]

theorem bd_cons {ys : List Int} (h : ∀ j : Nat, -1048576 < ys[j]?.getD 0 ∧ ys[j]?.getD 0 < 1048576) : ∀ j : Nat, -1048576 < (0 :: ys)[j]?.getD 0 ∧ (0 :: ys)[j]?.getD 0 < 1048576 := fun j => by
  cases j with
  | zero => simp
  | succ j => simpa using h j

/-- Four numbers in memory. -/
def C4 (B : Nat) (f0 f1 f2 f3 : Int) (w : World) : Prop :=
  w.cell? ⟨B, 0, none⟩ = some (.int .i64 f0) ∧ w.cell? ⟨B, 1, none⟩ = some (.int .i64 f1) ∧ w.cell? ⟨B, 2, none⟩ = some (.int .i64 f2) ∧ w.cell? ⟨B, 3, none⟩ = some (.int .i64 f3)

theorem C4.new (w : World) (f0 f1 f2 f3 : Int) : C4 w.heap.size f0 f1 f2 f3 (w.alloc (.cells #[.int .i64 f0, .int .i64 f1, .int .i64 f2, .int .i64 f3] 24)) := by
  refine ⟨?_, ?_, ?_, ?_⟩ <;> simp [World.cell?_alloc_at]

theorem C4.below {B : Nat} {f0 f1 f2 f3 : Int} {w w' : World} (h : C4 B f0 f1 f2 f3 w) (hb : Below w.heap.size w w') : C4 B f0 f1 f2 f3 w' := by
  obtain ⟨h0, h1, h2, h3⟩ := h
  have hlt : B < w.heap.size := World.block_lt_of_cell? w _ h0
  exact ⟨(hb.cell (p := ⟨B, 0, none⟩) hlt).trans h0, (hb.cell (p := ⟨B, 1, none⟩) hlt).trans h1, (hb.cell (p := ⟨B, 2, none⟩) hlt).trans h2, (hb.cell (p := ⟨B, 3, none⟩) hlt).trans h3⟩

set_option maxHeartbeats 3200000 in
set_option maxRecDepth 100000 in
theorem shifts_walk (a : Option Addr) (len cap : Nat) (zs : List Int) (w : World) (ha : RowOf w a len zs) :
    Calls Try.prog 4 #[.slice a len cap] w fun e w' => e = .returned (.bool true) ∧ Below w.heap.size w w' := by
  by_cases hl : (100 : Int) < len
  · go_enter Try.func4, Try.ntmps4
    go_wp2
    go_ret
    exact ⟨rfl, Below.refl _ _⟩
  · have hl2 : len ≤ 100 := by omega
    obtain ⟨b0, b1⟩ := fourth_bd (hs zs len) (hs_bd' zs len) 0 len (by omega)
    obtain ⟨b2, b3⟩ := fourth_bd (hs zs len) (hs_bd' zs len) 1 len (by omega)
    obtain ⟨b4, b5⟩ := fourth_bd (hs zs len) (hs_bd' zs len) 2 len (by omega)
    obtain ⟨b6, b7⟩ := fourth_bd (hs zs len) (hs_bd' zs len) 3 len (by omega)
    have HA := Lib.hid ha
    clear ha
    go_enter Try.func4, Try.ntmps4
    go_wp2_with fail
    refine (held_own a len cap zs w (by omega) HA.out).mono ?_
    rintro e w1 ⟨v, rfl, hown, hbel⟩
    have HO := Lib.hid hown
    have HB := Lib.hid hbel
    clear hown hbel HA
    go_wp2_with (at_builtin; refine wpList_append_row rfl _ _ rfl w1.heap.size w.heap.size _ 1 _ rfl (World.ownsRow_lit w1 #[.int .i64 0] 1 (Nat.le_refl _) (by unfold maxLen; omega) rfl) v len (hs zs len) rfl (HO.out.alloc _) ?c1 ?c2 ?_)
    case c1 => omega
    case c2 => simp
    intro v1 w2 hown1 hgrow
    have hne : v.ownBlock = none ∨ v.ownBlock ≠ some w1.heap.size := by
      by_cases h : v.ownBlock = some w1.heap.size
      · have := HO.out.lt _ h; omega
      · exact .inr h
    have HO2 := Lib.hid ((HO.out.alloc _).kept hgrow hne)
    have HB2 := Lib.hid ((HB.out.alloc HB.out.size _).grown hgrow (by have := HB.out.size; simp; omega) (fun j hj => by have := HB.out.size; simp [Value.ownBlock] at hj; omega))
    have HO1 := Lib.hid hown1
    have hsz := hgrow.size
    simp at hsz
    clear hown1 hgrow hne
    go_wp2_with (at_builtin; refine wpList_append_row rfl _ _ rfl w2.heap.size w.heap.size _ 4 _ rfl (World.ownsRow_lit w2 #[.int .i64 0, .int .i64 0, .int .i64 0, .int .i64 0] 4 (Nat.le_refl _) (by unfold maxLen; omega) rfl) v len (hs zs len) rfl (HO2.out.alloc _) ?c3 ?c4 ?_)
    case c3 => omega
    case c4 => simp
    intro v2 w3 hown2 hgrow
    have hne : v.ownBlock = none ∨ v.ownBlock ≠ some w2.heap.size := by
      by_cases h : v.ownBlock = some w2.heap.size
      · have := HO2.out.lt _ h; omega
      · exact .inr h
    have hne1 : v1.ownBlock = none ∨ v1.ownBlock ≠ some w2.heap.size := by
      by_cases h : v1.ownBlock = some w2.heap.size
      · have := HO1.out.lt _ h; omega
      · exact .inr h
    have HO3 := (HO2.out.alloc _).kept hgrow hne
    have HO4 := (HO1.out.alloc _).kept hgrow hne1
    have HB3 := Lib.hid ((HB2.out.alloc HB2.out.size _).grown hgrow (by have := HB2.out.size; simp; omega) (fun j hj => by have := HB2.out.size; simp [Value.ownBlock] at hj; omega))
    obtain ⟨a1, cap1, rfl, r1⟩ := RowOf.of_owns HO3
    obtain ⟨a2, cap2, rfl, r2⟩ := RowOf.of_owns (zs := 0 :: hs zs len) HO4
    obtain ⟨a3, cap3, rfl, r3⟩ := RowOf.of_owns (zs := 0 :: 0 :: 0 :: 0 :: hs zs len) hown2
    have R1 := Lib.hid r1
    have R2 := Lib.hid r2
    have R3 := Lib.hid r3
    have HZ := Lib.hid (hs_bd' zs len)
    have HZ1 := Lib.hid (bd_cons (hs_bd' zs len))
    have HZ4 := Lib.hid (bd_cons (bd_cons (bd_cons (bd_cons (hs_bd' zs len)))))
    have e0 : fourth (0 :: hs zs len) 0 (1 + len) = fourth (hs zs len) 3 len := by rw [Nat.add_comm]; exact fourth_up _ 0 (by decide) len
    have e1 : fourth (0 :: hs zs len) 1 (1 + len) = fourth (hs zs len) 0 len := by rw [Nat.add_comm]; exact fourth_up _ 1 (by decide) len
    have e2 : fourth (0 :: hs zs len) 2 (1 + len) = fourth (hs zs len) 1 len := by rw [Nat.add_comm]; exact fourth_up _ 2 (by decide) len
    have e3 : fourth (0 :: hs zs len) 3 (1 + len) = fourth (hs zs len) 2 len := by rw [Nat.add_comm]; exact fourth_up _ 3 (by decide) len
    have d0 : ∀ r, fourth (0 :: 0 :: 0 :: 0 :: hs zs len) r (4 + len) = fourth (hs zs len) r len := fun r => by rw [Nat.add_comm]; exact fourth_four _ r len
    generalize hf0 : fourth (hs zs len) 0 len = f0 at *
    generalize hf1 : fourth (hs zs len) 1 len = f1 at *
    generalize hf2 : fourth (hs zs len) 2 len = f2 at *
    generalize hf3 : fourth (hs zs len) 3 len = f3 at *
    have H0 := Lib.hid hf0
    have H1 := Lib.hid hf1
    have H2 := Lib.hid hf2
    have H3 := Lib.hid hf3
    have E0 := Lib.hid e0
    have E1 := Lib.hid e1
    have E2 := Lib.hid e2
    have E3 := Lib.hid e3
    have D0 := Lib.hid ((d0 0).trans hf0)
    have D1 := Lib.hid ((d0 1).trans hf1)
    have D2 := Lib.hid ((d0 2).trans hf2)
    have D3 := Lib.hid ((d0 3).trans hf3)
    -- the words of i times the turned sum
    obtain ⟨re, im, hm, q1, q2⟩ := R.cmul (m := 1) (n := 629145600) R.zero R.one (R.nearest (f0 - f2) (by omega)) (R.nearest (f1 - f3) (by omega)) (by omega) (by omega) (by omega) (by omega) (by omega)
    rw [Int.zero_mul, Int.one_mul, Int.zero_sub] at q1
    rw [Int.zero_mul, Int.one_mul, Int.zero_add] at q2
    have F1 := R.eq (R.nearest (f3 - f1) (by omega)) q1
    have F2 := R.eq (R.nearest (f0 - f2) (by omega)) q2
    have F3 := R.self (n := f0 - f2) (by omega)
    have F4 := R.self (n := f1 - f3) (by omega)
    have e6 : f3 - f1 = -(f1 - f3) := by omega
    rw [e6] at F1
    rw [decide_eq_true rfl, ← e6] at F1
    rw [decide_eq_true rfl] at F2
    have he4 := eq4 f3 f0 f1 f2
    have HM := Lib.hid hm
    have F1' := Lib.hid F1
    have F2' := Lib.hid F2
    have F3' := Lib.hid F3
    have F4' := Lib.hid F4
    have he4' := Lib.hid he4
    clear HO HB HO2 HB2 HO1 HO3 HO4 hown2 hgrow hne hne1 r1 r2 r3 hsz hf0 hf1 hf2 hf3 e0 e1 e2 e3 d0 hm q1 q2 F1 F2 F3 F4 e6 he4
    go_wp2_with fail
    refine (fourths_any a1 len cap1 (hs zs len) w3 (by omega) R1.out HZ.out).mono ?_
    rintro e w4 ⟨rfl, hb4⟩
    rw [H0.out, H1.out, H2.out, H3.out]
    have HB4 := Lib.hid hb4
    clear hb4
    go_wp2_with fail
    have HB5 : Hid (Below w3.heap.size w3 (w4.alloc (.cells #[.int .i64 f0, .int .i64 f1, .int .i64 f2, .int .i64 f3] 24))) := HB4.out.alloc HB4.out.size _
    refine (fourths_any a2 (1 + len) cap2 (0 :: hs zs len) _ (by omega) (R2.out.below HB5.out (Nat.le_refl _)) HZ1.out).mono ?_
    rintro e w5 ⟨rfl, hb5⟩
    rw [E0.out, E1.out, E2.out, E3.out]
    have HC5 := Lib.hid ((C4.new w4 f0 f1 f2 f3).below hb5)
    have HB5' := Lib.hid (HB5.out.trans (hb5.mono HB5.out.size))
    clear hb5
    go_wp2_with fail
    have HC6 := Lib.hid (HC5.out.below ((Below.refl _ w5).alloc (Nat.le_refl _) (.cells #[.int .i64 f3, .int .i64 f0, .int .i64 f1, .int .i64 f2] 24)))
    have HD6 := Lib.hid (C4.new w5 f3 f0 f1 f2)
    have HB6 : Hid (Below w3.heap.size w3 (w5.alloc (.cells #[.int .i64 f3, .int .i64 f0, .int .i64 f1, .int .i64 f2] 24))) := HB5'.out.alloc HB5'.out.size _
    refine (turn_any a2 (1 + len) cap2 (0 :: hs zs len) _ (by omega) (R2.out.below HB6.out (Nat.le_refl _)) HZ1.out).mono ?_
    rintro e w6 ⟨rfl, hb⟩
    rw [E0.out, E1.out, E2.out, E3.out]
    have HC7 := Lib.hid (HC6.out.below hb)
    have HD7 := Lib.hid (HD6.out.below hb)
    have HB7 := Lib.hid (HB6.out.trans (hb.mono HB6.out.size))
    clear hb
    go_wp2_with fail
    refine (turn_any a1 len cap1 (hs zs len) _ (by omega) (R1.out.below HB7.out (Nat.le_refl _)) HZ.out).mono ?_
    rintro e w7 ⟨rfl, hb⟩
    rw [H0.out, H1.out, H2.out, H3.out]
    have HC8 := Lib.hid (HC7.out.below hb)
    have HD8 := Lib.hid (HD7.out.below hb)
    have HB8 := Lib.hid (HB7.out.trans (hb.mono HB7.out.size))
    clear hb
    go_wp2_with fail
    refine (mul_any _ _ _ _ re im _ HM.out).mono ?_
    rintro e w8 ⟨rfl, rfl⟩
    have F1 := F1'.out
    have F2 := F2'.out
    go_wp2_with fail
    clear F1 F2
    refine (turn_any a3 (4 + len) cap3 (0 :: 0 :: 0 :: 0 :: hs zs len) _ (by omega) (R3.out.below HB8.out (Nat.le_refl _)) HZ4.out).mono ?_
    rintro e w8 ⟨rfl, hb⟩
    rw [D0.out, D1.out, D2.out, D3.out]
    have HC9 := Lib.hid (HC8.out.below hb)
    have HD9 := Lib.hid (HD8.out.below hb)
    have HB9 := Lib.hid (HB8.out.trans (hb.mono HB8.out.size))
    clear hb
    go_wp2_with fail
    refine (turn_any a1 len cap1 (hs zs len) _ (by omega) (R1.out.below HB9.out (Nat.le_refl _)) HZ.out).mono ?_
    rintro e w9 ⟨rfl, hb⟩
    rw [H0.out, H1.out, H2.out, H3.out]
    obtain ⟨c0, c1, c2, c3⟩ := HC9.out.below hb
    obtain ⟨x0, x1, x2, x3⟩ := HD9.out.below hb
    have HB10 := Lib.hid (HB9.out.trans (hb.mono HB9.out.size))
    clear hb
    have F3 := F3'.out
    have F4 := F4'.out
    have he4 := he4'.out
    go_wp2_with fail
    clear F3 F4 he4 c0 c1 c2 c3 x0 x1 x2 x3
    refine (known_any _).mono ?_
    rintro e w10 ⟨rfl, hb⟩
    have HB11 := Lib.hid (HB10.out.trans (hb.mono HB10.out.size))
    clear hb
    go_wp2
    go_ret
    exact ⟨rfl, HB3.out.trans (HB11.out.mono HB3.out.size)⟩

end Go.Proofs.Yteoceccofbnfnaa

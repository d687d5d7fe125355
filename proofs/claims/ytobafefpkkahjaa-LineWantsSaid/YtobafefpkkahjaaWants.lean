/- LineWants: the walk. -/
import Derived.Test.YtobafefpkkahjaaOpen
namespace Go.Proofs.Ytobafefpkkahjaa
open Go.RowKit

/-- The loop of LineWants is behind: no byte is a line's end. -/
theorem wants_big (n : Int) (a : Option Addr) (len cap : Nat) (w : World) (h : 200 < len) (hl : len ≤ 9223372036854775807) :
    Calls Try.prog 9 #[.int .i64 n, .slice a len cap] w fun e w' => e = .returned (.bool true) ∧ Below w.heap.size w w' := by
  go_enter Try.func9, Try.ntmps9
  go_wp2
  go_ret
  exact ⟨rfl, Below.refl _ _⟩

set_option maxHeartbeats 800000 in
theorem wants_in (n : Int) (a : Option Addr) (len cap : Nat) (bs : List UInt8) (hlen : bs.length = len) (w : World) (hr : Rd w a bs) (h : len ≤ 200) :
    Calls Try.prog 9 #[.int .i64 n, .slice a len cap] w fun e w' => e = .returned (.bool true) ∧ Below w.heap.size w w' := by
  subst hlen
  have HR := Lib.hid hr
  clear hr
  go_enter Try.func9, Try.ntmps9
  go_wp2_with fail
  go_loopw [5] (fun i wr => ∃ k : Nat, k ≤ bs.length ∧ i = .int .i64 k ∧ wr = w ∧ ∀ j, j < k → (N8 bs).getD j 0 ≠ 10 ∧ (N8 bs).getD j 0 ≠ 13) (fun i _ => bs.length - (intOf i).toNat)
  case atStart => exact ⟨0, Nat.zero_le _, rfl, rfl, fun j h => absurd h (by omega)⟩
  case round =>
    obtain ⟨k, hk, rfl, rfl, hall⟩ := hrel
    have HALL := Lib.hid hall
    clear hall
    by_cases hlt : k < bs.length
    · obtain ⟨g, off, rfl, _, hc⟩ := HR.out (by omega)
      have hcell := hc k (by omega)
      have haddr := addr_add g off k
      clear hc
      by_cases d1 : (N8 bs).getD k 0 = 10
      · rw [d1] at hcell
        go_wp2
        go_ret
        exact ⟨rfl, Below.refl _ _⟩
      · by_cases d2 : (N8 bs).getD k 0 = 13
        · rw [d2] at hcell
          go_wp2
          go_ret
          exact ⟨rfl, Below.refl _ _⟩
        · have HD : Hid ((N8 bs).getD k 0 ≠ 10 ∧ (N8 bs).getD k 0 ≠ 13) := ⟨d1, d2⟩
          generalize hg : (N8 bs).getD k 0 = c at d1 d2 hcell HD
          have HG := Lib.hid hg
          have b1 : (c == 10) = false := by simpa using d1
          have b2 : (c == 13) = false := by simpa using d2
          clear hg d1 d2
          go_wp2
          refine ⟨⟨k + 1, by omega, by go_num, by trivial, fun j hj => ?_⟩, by simp [intOf]; omega⟩
          rcases Nat.lt_succ_iff_lt_or_eq.1 hj with h1 | h1
          · exact HALL.out j h1
          · subst h1
            rw [HG.out]
            exact HD
    · obtain rfl : k = bs.length := by omega
      have hfree : ∀ c : UInt8, (c = 10 ∨ c = 13) → ∀ b ∈ bs, b ≠ c := fun c hcc => mem_of_getD (fun j hj => by
        rcases hcc with rfl | rfl
        · exact (HALL.out j (by omega)).1
        · exact (HALL.out j (by omega)).2)
      have HF := Lib.hid hfree
      clear hfree HALL
      go_wp2_with fail
      refine (new_any _).mono ?_
      rintro e w2 ⟨rfl, hw2⟩
      have h2' := Own.new wr _ (Below.refl _ _)
      rw [hw2] at h2'
      have H2 := Lib.hid h2'
      clear h2' hw2
      by_cases hn : 0 ≤ n ∧ n ≤ 1200
      · obtain ⟨hn0, hn1⟩ := hn
        go_wp2_with fail
        refine (want_ok _ none 0 [] (-1) false n _ H2.out.x hn0 hn1).mono ?_
        rintro e w3 ⟨rfl, hx3, ht3⟩
        have H3 := Lib.hid (H2.out.step hx3 ht3 (After.none _ _))
        clear hx3 ht3
        go_wp2_with fail
        refine (known_any _).mono ?_
        rintro e w4 ⟨rfl, hb4⟩
        go_wp2_with fail
        go_ret
        exact ⟨rfl, H3.out.bel.trans (hb4.mono H3.out.bel.size)⟩
      · have hno : (some (⟨wr.heap.size, 0, none⟩ : Addr)) = none ∨ n < 0 ∨ 1200 < n := by right; omega
        have HNO := Lib.hid hno
        clear hn hno
        go_wp2_with fail
        refine (want_no _ n _ HNO.out).mono ?_
        rintro e w3 ⟨rfl, hw3⟩
        have h3 := H2.out
        rw [hw3] at h3
        have H3 := Lib.hid h3
        clear h3 H2 hw3
        have HR3 : Hid (Rd w3 a bs) := H3.out.rd HR.out
        by_cases hn0 : n < 0
        · clear HNO
          go_wp2_with (at_builtin; refine wpList_append_tl rfl _ _ rfl (some ⟨w3.heap.size, 0, none⟩) 0 [] bs _ rfl rfl (tl_lit w3 [] _ rfl) (src_of (HR3.out.alloc (.cells #[] 5)) cap) (by simp; omega) ?_)
          intro a4 cap4 w4 htl4 ht4 haf4
          have h4 := app1 ht4 haf4
          have H4 := Lib.hid h4
          have HTL4 := Lib.hid htl4
          clear htl4 ht4 haf4 h4
          go_wp2_with (at_builtin; refine wpList_append_tl rfl _ _ rfl a4 cap4 bs [10] _ rfl rfl (HTL4.out.alloc (.cells #[.int .u8 10] 5)) (src_of (lit_rd w4 [10] (0, 0) _ rfl) 1) (by simp; omega) ?_)
          intro a5 cap5 w5 htl5 ht5 haf5
          have h5 := app2 H4.out.1 H4.out.2 ht5 haf5
          have H5 := Lib.hid (H3.out.after h5.1)
          have HR5 := Lib.hid htl5.rd
          clear htl5 ht5 haf5 h5 H4 HTL4
          go_wp2_with fail
          refine (feed_ok' _ none 0 [] (-1) false _ _ _ (bs ++ [10]) _ (by simp) H5.out.x HR5.out (by simp; omega)).mono ?_
          rintro e w6 ⟨a6, cap6, rfl, hx6, ht6, haf6⟩
          have H6 := Lib.hid (H5.out.step hx6 ht6 haf6)
          clear hx6 ht6 haf6 H5 HR5
          go_wp2_with fail
          have hstep : step ([] ++ (bs ++ [10])) (-1) false = ⟨1, bs, true, [], -1, false⟩ := by
            have := step_line bs [] false (HF.out 10 (.inl rfl))
            rw [trim13_free bs (HF.out 13 (.inr rfl))] at this
            have hd : decide (300 < bs.length) = false := by simp; omega
            simpa [hd] using this
          refine (next_any _ a6 cap6 _ (-1) false _ H6.out.x (by decide) (by simp; omega)).mono ?_
          rw [hstep]
          rintro e w7 ⟨r, rc, a7, cap7, rfl, hr, hra, hx7, ht7, haf7⟩
          have H7 := Lib.hid ((H6.out.step hx7 ht7 (haf7.after _)).alloc (.cells #[.int .i64 1, .slice r bs.length rc] 30))
          have hcv : (convert 22 9 (.slice r bs.length rc)).run Try.prog (w7.alloc (.cells #[.int .i64 1, .slice r bs.length rc] 30)) = .ok (.string (Str bs)) (w7.alloc (.cells #[.int .i64 1, .slice r bs.length rc] 30)) := (hr.alloc _).convert rc
          have hcb : (convert 22 9 (.slice a bs.length cap)).run Try.prog (w7.alloc (.cells #[.int .i64 1, .slice r bs.length rc] 30)) = .ok (.string (Str bs)) (w7.alloc (.cells #[.int .i64 1, .slice r bs.length rc] 30)) := (H7.out.rd HR.out).convert cap
          have hse := str_eq bs
          clear hr hra hx7 ht7 haf7 hstep H6
          go_wp2_with fail
          refine (known_any _).mono ?_
          rintro e w8 ⟨rfl, hb8⟩
          go_wp2_with fail
          go_ret
          exact ⟨rfl, H7.out.bel.trans (hb8.mono H7.out.bel.size)⟩
        · have hn1 : 1200 < n := by rcases HNO.out with h | h | h <;> first | (cases h) | omega
          clear HNO
          go_wp2_with (at_builtin; refine wpList_append_tl rfl _ _ rfl (some ⟨w3.heap.size, 0, none⟩) 0 [] bs _ rfl rfl (tl_lit w3 [] _ rfl) (src_of (HR3.out.alloc (.cells #[] 5)) cap) (by simp; omega) ?_)
          intro a4 cap4 w4 htl4 ht4 haf4
          have h4 := app1 ht4 haf4
          have H4 := Lib.hid h4
          have HTL4 := Lib.hid htl4
          clear htl4 ht4 haf4 h4
          go_wp2_with (at_builtin; refine wpList_append_tl rfl _ _ rfl a4 cap4 bs [10] _ rfl rfl (HTL4.out.alloc (.cells #[.int .u8 10] 5)) (src_of (lit_rd w4 [10] (0, 0) _ rfl) 1) (by simp; omega) ?_)
          intro a5 cap5 w5 htl5 ht5 haf5
          have h5 := app2 H4.out.1 H4.out.2 ht5 haf5
          have H5 := Lib.hid (H3.out.after h5.1)
          have HR5 := Lib.hid htl5.rd
          clear htl5 ht5 haf5 h5 H4 HTL4
          go_wp2_with fail
          refine (feed_ok' _ none 0 [] (-1) false _ _ _ (bs ++ [10]) _ (by simp) H5.out.x HR5.out (by simp; omega)).mono ?_
          rintro e w6 ⟨a6, cap6, rfl, hx6, ht6, haf6⟩
          have H6 := Lib.hid (H5.out.step hx6 ht6 haf6)
          clear hx6 ht6 haf6 H5 HR5
          go_wp2_with fail
          have hstep : step ([] ++ (bs ++ [10])) (-1) false = ⟨1, bs, true, [], -1, false⟩ := by
            have := step_line bs [] false (HF.out 10 (.inl rfl))
            rw [trim13_free bs (HF.out 13 (.inr rfl))] at this
            have hd : decide (300 < bs.length) = false := by simp; omega
            simpa [hd] using this
          refine (next_any _ a6 cap6 _ (-1) false _ H6.out.x (by decide) (by simp; omega)).mono ?_
          rw [hstep]
          rintro e w7 ⟨r, rc, a7, cap7, rfl, hr, hra, hx7, ht7, haf7⟩
          have H7 := Lib.hid ((H6.out.step hx7 ht7 (haf7.after _)).alloc (.cells #[.int .i64 1, .slice r bs.length rc] 30))
          have hcv : (convert 22 9 (.slice r bs.length rc)).run Try.prog (w7.alloc (.cells #[.int .i64 1, .slice r bs.length rc] 30)) = .ok (.string (Str bs)) (w7.alloc (.cells #[.int .i64 1, .slice r bs.length rc] 30)) := (hr.alloc _).convert rc
          have hcb : (convert 22 9 (.slice a bs.length cap)).run Try.prog (w7.alloc (.cells #[.int .i64 1, .slice r bs.length rc] 30)) = .ok (.string (Str bs)) (w7.alloc (.cells #[.int .i64 1, .slice r bs.length rc] 30)) := (H7.out.rd HR.out).convert cap
          have hse := str_eq bs
          clear hr hra hx7 ht7 haf7 hstep H6
          go_wp2_with fail
          refine (known_any _).mono ?_
          rintro e w8 ⟨rfl, hb8⟩
          go_wp2_with fail
          go_ret
          exact ⟨rfl, H7.out.bel.trans (hb8.mono H7.out.bel.size)⟩

theorem wants_walk (n : Int) (a : Option Addr) (len cap : Nat) (bs : List UInt8) (hlen : bs.length = len) (w : World) (hr : Rd w a bs) (hl : len ≤ 9223372036854775807) :
    Calls Try.prog 9 #[.int .i64 n, .slice a len cap] w fun e w' => e = .returned (.bool true) ∧ Below w.heap.size w w' := by
  by_cases h : len ≤ 200
  · exact wants_in n a len cap bs hlen w hr h
  · exact wants_big n a len cap w (by omega) hl

end Go.Proofs.Ytobafefpkkahjaa

/- LineOfNothing: the walk (printed by gen_nothing.py). -/
import Derived.Test.YtobafefpkkahjaaBase
import Derived.Laws.MakeOwn
namespace Go.Proofs.Ytobafefpkkahjaa
open Go.RowKit

def Z8 (n : Nat) : List UInt8 := List.replicate n 0
@[simp] theorem Z8_length (n : Nat) : (Z8 n).length = n := by simp [Z8]

theorem made8 (n : Nat) : madeCells (Value.int .u8 0).cells (n * 1) = (C8 (Z8 n)).toArray := by
  apply Array.ext'
  simp only [madeCells, Value.cells, Nat.mul_one, C8, N8, Z8]
  apply List.ext_getElem
  · simp
  · intro i h1 h2
    simp [Nat.mod_one]

theorem mk8 (n : Nat) (h : n ≤ 1000000) (w : World) : (Instr.makeSlice 22 (.int .i64 n) (.int .i64 n)).run Try.prog w = .ok (.slice (some ⟨w.heap.size, 0, none⟩) n n) (w.alloc (.cells (C8 (Z8 n)).toArray 5)) := by
  obtain ⟨i0, hi, hz0, hz1, hz2⟩ := info_parts Try.info5
  have := run_make (P := Try.prog) w 22 5 i0 _ Try.underlying22 hi hz0 .i64 .i64 n n (by omega) (by omega) (by rw [hz2]; omega) (by omega)
  simp only [Int.toNat_natCast, hz1] at this
  rw [this, made8]

theorem feed_ok' (L : Nat) (a : Option Addr) (cap : Nat) (bs : List UInt8) (want : Int) (dr : Bool) (b : Option Addr) (n bcap : Nat) (ys : List UInt8) (w : World) (hn : ys.length = n) (hx : XAt w L a cap bs want dr) (hy : Rd w b ys) (hsz : bs.length + n ≤ 4096) :
    Calls Try.prog 15 #[.pointer (some ⟨L, 0, none⟩), .slice b n bcap] w fun e w' => ∃ a' cap', e = .returned (.int .i64 0) ∧ XAt w' L a' cap' (bs ++ ys) want dr ∧ Touch w w' (Foot L a) ∧ After w a a' := by
  subst hn
  exact feed_ok L a cap bs want dr b bcap ys w hx hy hsz

set_option maxHeartbeats 800000 in
theorem nothing_gg (n m : Nat) (h1 : n ≤ 6000) (h2 : m ≤ 6000) (hn : n ≤ 4096) (hm : m ≤ 4096 - n) (w : World) :
    Calls Try.prog 8 #[.int .i64 n, .int .i64 m] w fun e w' => e = .returned (.bool true) ∧ Below w.heap.size w w' := by
  have m1 := mk8 n (by omega)
  have m2 := mk8 m (by omega)
  go_enter Try.func8, Try.ntmps8
  go_wp2_with fail
  refine (next_nil w).mono ?_
  rintro e w1 ⟨rfl, hb1⟩
  have hb2 : Below w.heap.size w (w1.alloc (.cells #[.int .i64 0, .slice none 0 0] 30)) := hb1.alloc hb1.size _
  have HB := Lib.hid hb2
  clear hb1 hb2
  go_wp2_with fail
  refine (new_any _).mono ?_
  rintro e w2 ⟨rfl, hw2⟩
  have h2' := Own.new w _ HB.out
  rw [show (w1.alloc (.cells #[.int .i64 0, .slice none 0 0] 30)).heap.size = w1.heap.size + 1 from by simp, hw2] at h2'
  have HR := Lib.hid (lit_rd w2 (Z8 n) (0, 0) w2.heap.size rfl)
  have H3 := Lib.hid (h2'.alloc (.cells (C8 (Z8 n)).toArray 5))
  clear h2' HB hw2
  go_wp2_with fail
  refine (feed_ok' _ none 0 [] (-1) false _ n n (Z8 n) _ (by simp) H3.out.x HR.out (by first | (simp; omega) | simp)).mono ?_
  rintro e w3 ⟨a3, cap3, rfl, hx3, ht3, haf3⟩
  have H4 := Lib.hid (H3.out.step hx3 ht3 haf3)
  clear hx3 ht3 haf3
  clear H3 HR
  go_wp2_with fail
  refine (len_any _ a3 cap3 ([] ++ Z8 n) (-1) false _ H4.out.x).mono ?_
  rintro e w4 ⟨rfl, hw4⟩
  have h4 := H4.out
  rw [hw4] at h4
  have HR := Lib.hid (lit_rd w4 (Z8 m) (0, 0) w4.heap.size rfl)
  have H5 := Lib.hid (h4.alloc (.cells (C8 (Z8 m)).toArray 5))
  clear h4 H4 hw4
  rw [List.nil_append, Z8_length]
  go_wp2_with fail
  refine (feed_ok' _ a3 cap3 ([] ++ Z8 n) (-1) false _ m m (Z8 m) _ (by simp) H5.out.x HR.out (by first | (simp; omega) | simp)).mono ?_
  rintro e w5 ⟨a5, cap5, rfl, hx5, ht5, haf5⟩
  have H6 := Lib.hid (H5.out.step hx5 ht5 haf5)
  clear hx5 ht5 haf5
  clear H5 HR
  have d1 : ((n : Int) ≤ 4096) = True := by simp; omega
  have d2 : IntKind.i64.wrap (4096 - (n : Int)) = 4096 - (n : Int) := IntWalk.i64_in _ (by omega)
  have d3 : ((m : Int) ≤ 4096 - (n : Int)) = True := by simp; omega
  go_wp2_with fail
  refine (feed_nil _ _).mono ?_
  rintro e w6 ⟨rfl, hw6⟩
  go_wp2_with fail
  refine (want_no none 1 _ (.inl rfl)).mono ?_
  rintro e w7 ⟨rfl, hw7⟩
  go_wp2_with fail
  refine (len_nil _).mono ?_
  rintro e w8 ⟨rfl, hw8⟩
  go_wp2_with fail
  refine (known_any _).mono ?_
  rintro e w9 ⟨rfl, hb9⟩
  go_wp2_with fail
  go_ret
  subst hw6 hw7 hw8
  exact ⟨rfl, H6.out.bel.trans (hb9.mono H6.out.bel.size)⟩

set_option maxHeartbeats 800000 in
theorem nothing_gb (n m : Nat) (h1 : n ≤ 6000) (h2 : m ≤ 6000) (hn : n ≤ 4096) (hm : 4096 - n < m) (w : World) :
    Calls Try.prog 8 #[.int .i64 n, .int .i64 m] w fun e w' => e = .returned (.bool true) ∧ Below w.heap.size w w' := by
  have m1 := mk8 n (by omega)
  have m2 := mk8 m (by omega)
  go_enter Try.func8, Try.ntmps8
  go_wp2_with fail
  refine (next_nil w).mono ?_
  rintro e w1 ⟨rfl, hb1⟩
  have hb2 : Below w.heap.size w (w1.alloc (.cells #[.int .i64 0, .slice none 0 0] 30)) := hb1.alloc hb1.size _
  have HB := Lib.hid hb2
  clear hb1 hb2
  go_wp2_with fail
  refine (new_any _).mono ?_
  rintro e w2 ⟨rfl, hw2⟩
  have h2' := Own.new w _ HB.out
  rw [show (w1.alloc (.cells #[.int .i64 0, .slice none 0 0] 30)).heap.size = w1.heap.size + 1 from by simp, hw2] at h2'
  have HR := Lib.hid (lit_rd w2 (Z8 n) (0, 0) w2.heap.size rfl)
  have H3 := Lib.hid (h2'.alloc (.cells (C8 (Z8 n)).toArray 5))
  clear h2' HB hw2
  go_wp2_with fail
  refine (feed_ok' _ none 0 [] (-1) false _ n n (Z8 n) _ (by simp) H3.out.x HR.out (by first | (simp; omega) | simp)).mono ?_
  rintro e w3 ⟨a3, cap3, rfl, hx3, ht3, haf3⟩
  have H4 := Lib.hid (H3.out.step hx3 ht3 haf3)
  clear hx3 ht3 haf3
  clear H3 HR
  go_wp2_with fail
  refine (len_any _ a3 cap3 ([] ++ Z8 n) (-1) false _ H4.out.x).mono ?_
  rintro e w4 ⟨rfl, hw4⟩
  have h4 := H4.out
  rw [hw4] at h4
  have HR := Lib.hid (lit_rd w4 (Z8 m) (0, 0) w4.heap.size rfl)
  have H5 := Lib.hid (h4.alloc (.cells (C8 (Z8 m)).toArray 5))
  clear h4 H4 hw4
  rw [List.nil_append, Z8_length]
  go_wp2_with fail
  refine (feed_no _ a3 cap3 ([] ++ Z8 n) (-1) false _ m m _ H5.out.x (by first | (simp; omega) | simp) (by omega) (by first | (simp; omega) | simp)).mono ?_
  rintro e w5 ⟨rfl, hw5⟩
  have h6 := H5.out
  rw [hw5] at h6
  have H6 := Lib.hid h6
  clear hw5 h6
  clear H5 HR
  have d1 : ((n : Int) ≤ 4096) = True := by simp; omega
  have d2 : IntKind.i64.wrap (4096 - (n : Int)) = 4096 - (n : Int) := IntWalk.i64_in _ (by omega)
  have d3 : ((m : Int) ≤ 4096 - (n : Int)) = False := by simp; omega
  go_wp2_with fail
  refine (feed_nil _ _).mono ?_
  rintro e w6 ⟨rfl, hw6⟩
  go_wp2_with fail
  refine (want_no none 1 _ (.inl rfl)).mono ?_
  rintro e w7 ⟨rfl, hw7⟩
  go_wp2_with fail
  refine (len_nil _).mono ?_
  rintro e w8 ⟨rfl, hw8⟩
  go_wp2_with fail
  refine (known_any _).mono ?_
  rintro e w9 ⟨rfl, hb9⟩
  go_wp2_with fail
  go_ret
  subst hw6 hw7 hw8
  exact ⟨rfl, H6.out.bel.trans (hb9.mono H6.out.bel.size)⟩

set_option maxHeartbeats 800000 in
theorem nothing_bg (n m : Nat) (h1 : n ≤ 6000) (h2 : m ≤ 6000) (hn : 4096 < n) (hm : m ≤ 4096) (w : World) :
    Calls Try.prog 8 #[.int .i64 n, .int .i64 m] w fun e w' => e = .returned (.bool true) ∧ Below w.heap.size w w' := by
  have m1 := mk8 n (by omega)
  have m2 := mk8 m (by omega)
  go_enter Try.func8, Try.ntmps8
  go_wp2_with fail
  refine (next_nil w).mono ?_
  rintro e w1 ⟨rfl, hb1⟩
  have hb2 : Below w.heap.size w (w1.alloc (.cells #[.int .i64 0, .slice none 0 0] 30)) := hb1.alloc hb1.size _
  have HB := Lib.hid hb2
  clear hb1 hb2
  go_wp2_with fail
  refine (new_any _).mono ?_
  rintro e w2 ⟨rfl, hw2⟩
  have h2' := Own.new w _ HB.out
  rw [show (w1.alloc (.cells #[.int .i64 0, .slice none 0 0] 30)).heap.size = w1.heap.size + 1 from by simp, hw2] at h2'
  have HR := Lib.hid (lit_rd w2 (Z8 n) (0, 0) w2.heap.size rfl)
  have H3 := Lib.hid (h2'.alloc (.cells (C8 (Z8 n)).toArray 5))
  clear h2' HB hw2
  go_wp2_with fail
  refine (feed_no _ none 0 [] (-1) false _ n n _ H3.out.x (by simp) (by omega) (by first | (simp; omega) | simp)).mono ?_
  rintro e w3 ⟨rfl, hw3⟩
  have h4 := H3.out
  rw [hw3] at h4
  have H4 := Lib.hid h4
  clear hw3 h4
  clear H3 HR
  go_wp2_with fail
  refine (len_any _ none 0 [] (-1) false _ H4.out.x).mono ?_
  rintro e w4 ⟨rfl, hw4⟩
  have h4 := H4.out
  rw [hw4] at h4
  have HR := Lib.hid (lit_rd w4 (Z8 m) (0, 0) w4.heap.size rfl)
  have H5 := Lib.hid (h4.alloc (.cells (C8 (Z8 m)).toArray 5))
  clear h4 H4 hw4
  rw [List.length_nil]
  go_wp2_with fail
  refine (feed_ok' _ none 0 [] (-1) false _ m m (Z8 m) _ (by simp) H5.out.x HR.out (by first | (simp; omega) | simp)).mono ?_
  rintro e w5 ⟨a5, cap5, rfl, hx5, ht5, haf5⟩
  have H6 := Lib.hid (H5.out.step hx5 ht5 haf5)
  clear hx5 ht5 haf5
  clear H5 HR
  have d1 : ((n : Int) ≤ 4096) = False := by simp; omega
  have d2 : IntKind.i64.wrap (4096 - (0 : Int)) = 4096 - (0 : Int) := IntWalk.i64_in _ (by omega)
  have d3 : ((m : Int) ≤ 4096) = True := by simp; omega
  go_wp2_with fail
  refine (feed_nil _ _).mono ?_
  rintro e w6 ⟨rfl, hw6⟩
  go_wp2_with fail
  refine (want_no none 1 _ (.inl rfl)).mono ?_
  rintro e w7 ⟨rfl, hw7⟩
  go_wp2_with fail
  refine (len_nil _).mono ?_
  rintro e w8 ⟨rfl, hw8⟩
  go_wp2_with fail
  refine (known_any _).mono ?_
  rintro e w9 ⟨rfl, hb9⟩
  go_wp2_with fail
  go_ret
  subst hw6 hw7 hw8
  exact ⟨rfl, H6.out.bel.trans (hb9.mono H6.out.bel.size)⟩

set_option maxHeartbeats 800000 in
theorem nothing_bb (n m : Nat) (h1 : n ≤ 6000) (h2 : m ≤ 6000) (hn : 4096 < n) (hm : 4096 < m) (w : World) :
    Calls Try.prog 8 #[.int .i64 n, .int .i64 m] w fun e w' => e = .returned (.bool true) ∧ Below w.heap.size w w' := by
  have m1 := mk8 n (by omega)
  have m2 := mk8 m (by omega)
  go_enter Try.func8, Try.ntmps8
  go_wp2_with fail
  refine (next_nil w).mono ?_
  rintro e w1 ⟨rfl, hb1⟩
  have hb2 : Below w.heap.size w (w1.alloc (.cells #[.int .i64 0, .slice none 0 0] 30)) := hb1.alloc hb1.size _
  have HB := Lib.hid hb2
  clear hb1 hb2
  go_wp2_with fail
  refine (new_any _).mono ?_
  rintro e w2 ⟨rfl, hw2⟩
  have h2' := Own.new w _ HB.out
  rw [show (w1.alloc (.cells #[.int .i64 0, .slice none 0 0] 30)).heap.size = w1.heap.size + 1 from by simp, hw2] at h2'
  have HR := Lib.hid (lit_rd w2 (Z8 n) (0, 0) w2.heap.size rfl)
  have H3 := Lib.hid (h2'.alloc (.cells (C8 (Z8 n)).toArray 5))
  clear h2' HB hw2
  go_wp2_with fail
  refine (feed_no _ none 0 [] (-1) false _ n n _ H3.out.x (by simp) (by omega) (by first | (simp; omega) | simp)).mono ?_
  rintro e w3 ⟨rfl, hw3⟩
  have h4 := H3.out
  rw [hw3] at h4
  have H4 := Lib.hid h4
  clear hw3 h4
  clear H3 HR
  go_wp2_with fail
  refine (len_any _ none 0 [] (-1) false _ H4.out.x).mono ?_
  rintro e w4 ⟨rfl, hw4⟩
  have h4 := H4.out
  rw [hw4] at h4
  have HR := Lib.hid (lit_rd w4 (Z8 m) (0, 0) w4.heap.size rfl)
  have H5 := Lib.hid (h4.alloc (.cells (C8 (Z8 m)).toArray 5))
  clear h4 H4 hw4
  rw [List.length_nil]
  go_wp2_with fail
  refine (feed_no _ none 0 [] (-1) false _ m m _ H5.out.x (by first | (simp; omega) | simp) (by omega) (by first | (simp; omega) | simp)).mono ?_
  rintro e w5 ⟨rfl, hw5⟩
  have h6 := H5.out
  rw [hw5] at h6
  have H6 := Lib.hid h6
  clear hw5 h6
  clear H5 HR
  have d1 : ((n : Int) ≤ 4096) = False := by simp; omega
  have d2 : IntKind.i64.wrap (4096 - (0 : Int)) = 4096 - (0 : Int) := IntWalk.i64_in _ (by omega)
  have d3 : ((m : Int) ≤ 4096) = False := by simp; omega
  go_wp2_with fail
  refine (feed_nil _ _).mono ?_
  rintro e w6 ⟨rfl, hw6⟩
  go_wp2_with fail
  refine (want_no none 1 _ (.inl rfl)).mono ?_
  rintro e w7 ⟨rfl, hw7⟩
  go_wp2_with fail
  refine (len_nil _).mono ?_
  rintro e w8 ⟨rfl, hw8⟩
  go_wp2_with fail
  refine (known_any _).mono ?_
  rintro e w9 ⟨rfl, hb9⟩
  go_wp2_with fail
  go_ret
  subst hw6 hw7 hw8
  exact ⟨rfl, H6.out.bel.trans (hb9.mono H6.out.bel.size)⟩

theorem nothing_out (n m : Int) (h : n < 0 ∨ 6000 < n ∨ m < 0 ∨ 6000 < m) (w : World) :
    Calls Try.prog 8 #[.int .i64 n, .int .i64 m] w fun e w' => e = .returned (.bool true) ∧ Below w.heap.size w w' := by
  by_cases h1 : n < 0
  · go_enter Try.func8, Try.ntmps8
    go_wp2
    go_ret
    exact ⟨rfl, Below.refl _ _⟩
  · by_cases h2 : 6000 < n
    · go_enter Try.func8, Try.ntmps8
      go_wp2
      go_ret
      exact ⟨rfl, Below.refl _ _⟩
    · by_cases h3 : m < 0
      · go_enter Try.func8, Try.ntmps8
        go_wp2
        go_ret
        exact ⟨rfl, Below.refl _ _⟩
      · have h4 : 6000 < m := by omega
        go_enter Try.func8, Try.ntmps8
        go_wp2
        go_ret
        exact ⟨rfl, Below.refl _ _⟩

theorem nothing_walk (n m : Int) (w : World) : Calls Try.prog 8 #[.int .i64 n, .int .i64 m] w fun e w' => e = .returned (.bool true) ∧ Below w.heap.size w w' := by
  by_cases h : n < 0 ∨ 6000 < n ∨ m < 0 ∨ 6000 < m
  · exact nothing_out n m h w
  · obtain ⟨n, rfl⟩ : ∃ k : Nat, n = k := ⟨n.toNat, by omega⟩
    obtain ⟨m, rfl⟩ : ∃ k : Nat, m = k := ⟨m.toNat, by omega⟩
    by_cases hn : n ≤ 4096
    · by_cases hm : m ≤ 4096 - n
      · exact nothing_gg n m (by omega) (by omega) hn hm w
      · exact nothing_gb n m (by omega) (by omega) hn (by omega) w
    · by_cases hm : m ≤ 4096
      · exact nothing_bg n m (by omega) (by omega) (by omega) hm w
      · exact nothing_bb n m (by omega) (by omega) (by omega) (by omega) w

end Go.Proofs.Ytobafefpkkahjaa

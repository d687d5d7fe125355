/- LineLong: the walk within its bounds (printed by gen_long.py). -/
import Derived.Test.YtobafefpkkahjaaLong
namespace Go.Proofs.Ytobafefpkkahjaa
open Go.RowKit

set_option maxHeartbeats 3200000 in
theorem long_in (n : Nat) (cr : Bool) (c : Option Addr) (clen ccap : Nat) (w : World) (h1 : n ≤ 1000) (h2 : clen ≤ 60) (hc : Rc w c clen) (hcl : ∀ ad, c = some ad → 0 < clen → ad.block ≠ w.heap.size) :
    Calls Try.prog 4 #[.int .i64 n, .bool cr, .slice c clen ccap] w fun e w' => e = .returned (.bool true) ∧ Below w.heap.size w w' := by
  have HC := Lib.hid hc
  have HCL := Lib.hid hcl
  have mk := mk8 n (by omega)
  clear hc hcl
  go_enter Try.func4, Try.ntmps4
  go_wp2_with fail
  refine (new_any _).mono ?_
  rintro e w2 ⟨rfl, hw2⟩
  have h2' := Own.new w _ (Below.refl _ _)
  rw [hw2] at h2'
  have H2 := Lib.hid h2'
  clear h2' hw2
  go_wp2_with fail
  clear mk
  go_loopw [9] (fun i wr => ∃ k : Nat, k ≤ n ∧ i = .int .i64 k ∧ wr = w2.alloc (.cells (C8 (F8 k n)).toArray 5)) (fun i _ => n - (intOf i).toNat)
  case atStart => exact ⟨0, Nat.zero_le _, rfl, by rw [F8_zero]⟩
  case round =>
    obtain ⟨k, hk, rfl, rfl⟩ := hrel
    by_cases hlt : k < n
    · have c0 : (w2.alloc (.cells (C8 (F8 k n)).toArray 5)).cell? ⟨w2.heap.size, k, none⟩ = some (.int .u8 ((N8 (F8 k n)).getD k 0)) := by
        rw [blk_cell (blk_new w2 _), List.getElem?_toArray]
        exact C8_at _ k (by rw [F8_length _ _ hk]; exact hlt)
      have f0 : (w2.alloc (.cells (C8 (F8 k n)).toArray 5)).frozen? ⟨w2.heap.size, k, none⟩ = false := blk_free (blk_new w2 _)
      have haddr : (⟨w2.heap.size, 0, none⟩ : Addr).add k = ⟨w2.heap.size, k, none⟩ := by rw [addr_add, Nat.zero_add]
      generalize (N8 (F8 k n)).getD k 0 = cv at c0
      go_wp2
      refine ⟨⟨k + 1, by omega, by go_num, ?_⟩, by simp [intOf]; omega⟩
      rw [F8_set' k n hlt]
    · obtain rfl : k = n := by omega
      rw [F8_all]
      have HT0 := Lib.hid (tl_lit w2 (X8 k) w2.heap.size rfl)
      have H3 := Lib.hid (H2.out.alloc (.cells (C8 (X8 k)).toArray 5))
      have HR0 : Hid (Touch w2 (w2.alloc (.cells (C8 (X8 k)).toArray 5)) (fun j => w2.heap.size ≤ j)) := Touch.alloc _ _ _
      clear H3
      cases cr with
      | true =>
        go_wp2_with (at_builtin; refine wpList_append_tn rfl _ _ rfl (some ⟨w2.heap.size, 0, none⟩) k k (X8 k) [13] (by simp) _ rfl rfl ((show Tl _ _ k (X8 k) by have := HT0.out; rwa [X8_length] at this).alloc (.cells #[.int .u8 13] 5)) (src_of (lit_rd (w2.alloc (.cells (C8 (X8 k)).toArray 5)) [13] (0, 0) _ (by simp)) 1) (by simp; omega) ?_)
        intro a5 cap5 w5 htl5 ht5 haf5
        have h5 := app2 HR0.out (fun ad had => by cases had; exact Nat.le_refl _) ht5 haf5
        have H5 := Lib.hid h5
        have HTL5 := Lib.hid htl5
        clear htl5 ht5 haf5 h5 HT0 HR0
        go_wp2_with (at_builtin; refine wpList_append_tn rfl _ _ rfl a5 (k + 1) cap5 (X8 k ++ [13]) [10, 121, 10] (by simp) _ rfl rfl (HTL5.out.alloc (.cells #[.int .u8 10, .int .u8 121, .int .u8 10] 5)) (src_of (lit_rd w5 [10, 121, 10] (0, 0) _ rfl) 3) (by simp; omega) ?_)
        intro a6 cap6 w6 htl6 ht6 haf6
        have h6 := app2 H5.out.1 H5.out.2 ht6 haf6
        have HO := Lib.hid (H2.out.after h6.1)
        have HLO := Lib.hid h6.2
        have HTL6 : Hid (Tl w6 a6 cap6 ((X8 k ++ [13]) ++ [10, 121, 10])) := Lib.hid (by simpa using htl6)
        clear htl6 ht6 haf6 h6 H5 HTL5
        have hLlt : w.heap.size < w2.heap.size := H2.out.x.inA_lt _ (.inl rfl)
        have HLL := Lib.hid hLlt
        clear hLlt
        go_wp2_with fail
        have hlen : ((X8 k ++ [13]) ++ [10, 121, 10]).length = k + 1 + 3 := by simp
        have HE : Hid (E [] ((X8 k ++ [13]) ++ [10, 121, 10]) = [evOf (X8 k ++ [13]), (1, [121])]) := E_long _ (fun b hb => by
          rcases List.mem_append.1 hb with hb | hb
          · exact X8_free k 10 (by decide) b hb
          · rw [List.mem_singleton.1 hb]; decide)
        have hall := all_any w.heap.size w6 HO.out.x a6 cap6 ((X8 k ++ [13]) ++ [10, 121, 10]) HTL6.out.rd (fun ad had _ => by have := HLO.out ad had; have := HLL.out; omega) HTL6.out.1 (by rw [hlen]; omega) c clen ccap
          (fun hl => by
            obtain ⟨g, off, e, hg, hcc⟩ := HC.out hl
            refine ⟨g, off, e, Nat.lt_of_lt_of_le hg HO.out.bel.size, fun j hj => ?_⟩
            obtain ⟨v, hv⟩ := hcc j hj
            exact ⟨v, (HO.out.bel.cell (p := ⟨g, off + j, none⟩) hg).trans hv⟩) (fun ad had hl => HCL.out ad had hl) (by omega)
        rw [hlen, HE.out] at hall
        refine hall.mono ?_
        clear hall
        rintro e w7 ⟨a7, cap7, bs7, d7, ar, nn, rcap, cs, rfl, hAl⟩
        obtain rfl : nn = 2 := by have := hAl.num; simpa using this.symm
        have hbel := Al.below HO.out hAl
        obtain ⟨g, off, rfl⟩ := hAl.some_ (by decide)
        have htrim : trim13 (X8 k ++ [13]) = X8 k := trim13_end _
        obtain ⟨r1, rc1, c2, c3, hr1⟩ := hAl.cells 1 _ rfl
        have hv : (convert 22 9 (.slice r1 1 rc1)).run Try.prog w7 = .ok (.string (Str [121])) w7 := hr1.convert rc1
        have c2' : w7.cell? ⟨g, off + 2, none⟩ = some (.int .i64 1) := c2
        have c3' : w7.cell? ⟨g, off + 3, none⟩ = some (.slice r1 1 rc1) := c3
        clear c2 c3
        have hstr := Str_toList [121]
        have HB := Lib.hid hbel
        have a1 : (⟨g, off, none⟩ : Addr).add 2 = ⟨g, off + 2, none⟩ := addr_add _ _ _
        by_cases hbig : 300 < k
        · have hev : evOf (X8 k ++ [13]) = (2, []) := by unfold evOf; rw [htrim, X8_length, if_pos hbig]
          obtain ⟨r0, rc0, c0, c1, hr0⟩ := hAl.cells 0 _ rfl
          rw [hev] at c0 c1
          have c0' : w7.cell? ⟨g, off, none⟩ = some (.int .i64 2) := c0
          have c1' : w7.cell? ⟨g, off + 1, none⟩ = some (.slice r0 0 rc0) := c1
          clear c0 c1
          clear hAl hr1 hr0 hbel hev htrim HE HTL6 HLO
          go_wp2_with fail
          refine (known_any _).mono ?_
          rintro e w20 ⟨rfl, hb20⟩
          go_wp2_with fail
          go_ret
          exact ⟨rfl, HB.out.trans (hb20.mono HB.out.size)⟩
        · have hev : evOf (X8 k ++ [13]) = (1, X8 k) := by unfold evOf; rw [htrim, X8_length, if_neg hbig]
          obtain ⟨r0, rc0, c0, c1, hr0⟩ := hAl.cells 0 _ rfl
          rw [hev] at c0 c1
          have c0' : w7.cell? ⟨g, off, none⟩ = some (.int .i64 1) := c0
          have c1' : w7.cell? ⟨g, off + 1, none⟩ = some (.slice r0 k rc0) := by have := c1; simpa using this
          clear c0 c1
          clear hAl hr1 hr0 hbel hev htrim HE HTL6 HLO
          go_wp2_with fail
          refine (known_any _).mono ?_
          rintro e w20 ⟨rfl, hb20⟩
          go_wp2_with fail
          go_ret
          exact ⟨rfl, HB.out.trans (hb20.mono HB.out.size)⟩
      | false =>
        go_wp2_with (at_builtin; refine wpList_append_tn rfl _ _ rfl (some ⟨w2.heap.size, 0, none⟩) k k (X8 k) [10, 121, 10] (by simp) _ rfl rfl ((show Tl _ _ k (X8 k) by have := HT0.out; rwa [X8_length] at this).alloc (.cells #[.int .u8 10, .int .u8 121, .int .u8 10] 5)) (src_of (lit_rd (w2.alloc (.cells (C8 (X8 k)).toArray 5)) [10, 121, 10] (0, 0) _ (by simp)) 3) (by simp; omega) ?_)
        intro a6 cap6 w6 htl6 ht6 haf6
        have h6 := app2 HR0.out (fun ad had => by cases had; exact Nat.le_refl _) ht6 haf6
        have HO := Lib.hid (H2.out.after h6.1)
        have HLO := Lib.hid h6.2
        have HTL6 : Hid (Tl w6 a6 cap6 ((X8 k) ++ [10, 121, 10])) := Lib.hid (by simpa using htl6)
        clear htl6 ht6 haf6 h6 HT0 HR0
        have hLlt : w.heap.size < w2.heap.size := H2.out.x.inA_lt _ (.inl rfl)
        have HLL := Lib.hid hLlt
        clear hLlt
        go_wp2_with fail
        have hlen : ((X8 k) ++ [10, 121, 10]).length = k + 3 := by simp
        have HE : Hid (E [] ((X8 k) ++ [10, 121, 10]) = [evOf (X8 k), (1, [121])]) := E_long _ (fun b hb => by
          exact X8_free k 10 (by decide) b hb
        )
        have hall := all_any w.heap.size w6 HO.out.x a6 cap6 ((X8 k) ++ [10, 121, 10]) HTL6.out.rd (fun ad had _ => by have := HLO.out ad had; have := HLL.out; omega) HTL6.out.1 (by rw [hlen]; omega) c clen ccap
          (fun hl => by
            obtain ⟨g, off, e, hg, hcc⟩ := HC.out hl
            refine ⟨g, off, e, Nat.lt_of_lt_of_le hg HO.out.bel.size, fun j hj => ?_⟩
            obtain ⟨v, hv⟩ := hcc j hj
            exact ⟨v, (HO.out.bel.cell (p := ⟨g, off + j, none⟩) hg).trans hv⟩) (fun ad had hl => HCL.out ad had hl) (by omega)
        rw [hlen, HE.out] at hall
        refine hall.mono ?_
        clear hall
        rintro e w7 ⟨a7, cap7, bs7, d7, ar, nn, rcap, cs, rfl, hAl⟩
        obtain rfl : nn = 2 := by have := hAl.num; simpa using this.symm
        have hbel := Al.below HO.out hAl
        obtain ⟨g, off, rfl⟩ := hAl.some_ (by decide)
        have htrim : trim13 (X8 k) = X8 k := trim13_free _ (X8_free k 13 (by decide))
        obtain ⟨r1, rc1, c2, c3, hr1⟩ := hAl.cells 1 _ rfl
        have hv : (convert 22 9 (.slice r1 1 rc1)).run Try.prog w7 = .ok (.string (Str [121])) w7 := hr1.convert rc1
        have c2' : w7.cell? ⟨g, off + 2, none⟩ = some (.int .i64 1) := c2
        have c3' : w7.cell? ⟨g, off + 3, none⟩ = some (.slice r1 1 rc1) := c3
        clear c2 c3
        have hstr := Str_toList [121]
        have HB := Lib.hid hbel
        have a1 : (⟨g, off, none⟩ : Addr).add 2 = ⟨g, off + 2, none⟩ := addr_add _ _ _
        by_cases hbig : 300 < k
        · have hev : evOf (X8 k) = (2, []) := by unfold evOf; rw [htrim, X8_length, if_pos hbig]
          obtain ⟨r0, rc0, c0, c1, hr0⟩ := hAl.cells 0 _ rfl
          rw [hev] at c0 c1
          have c0' : w7.cell? ⟨g, off, none⟩ = some (.int .i64 2) := c0
          have c1' : w7.cell? ⟨g, off + 1, none⟩ = some (.slice r0 0 rc0) := c1
          clear c0 c1
          clear hAl hr1 hr0 hbel hev htrim HE HTL6 HLO
          go_wp2_with fail
          refine (known_any _).mono ?_
          rintro e w20 ⟨rfl, hb20⟩
          go_wp2_with fail
          go_ret
          exact ⟨rfl, HB.out.trans (hb20.mono HB.out.size)⟩
        · have hev : evOf (X8 k) = (1, X8 k) := by unfold evOf; rw [htrim, X8_length, if_neg hbig]
          obtain ⟨r0, rc0, c0, c1, hr0⟩ := hAl.cells 0 _ rfl
          rw [hev] at c0 c1
          have c0' : w7.cell? ⟨g, off, none⟩ = some (.int .i64 1) := c0
          have c1' : w7.cell? ⟨g, off + 1, none⟩ = some (.slice r0 k rc0) := by have := c1; simpa using this
          clear c0 c1
          clear hAl hr1 hr0 hbel hev htrim HE HTL6 HLO
          go_wp2_with fail
          refine (known_any _).mono ?_
          rintro e w20 ⟨rfl, hb20⟩
          go_wp2_with fail
          go_ret
          exact ⟨rfl, HB.out.trans (hb20.mono HB.out.size)⟩

theorem long_walk (n : Int) (cr : Bool) (c : Option Addr) (clen ccap : Nat) (w : World) (hc : Rc w c clen) (hl : clen ≤ 9223372036854775807) :
    Calls Try.prog 4 #[.int .i64 n, .bool cr, .slice c clen ccap] w fun e w' => e = .returned (.bool true) ∧ Below w.heap.size w w' := by
  by_cases h : n < 0 ∨ 1000 < n ∨ 60 < clen
  · exact long_out n cr c clen ccap w h hl
  · obtain ⟨n, rfl⟩ : ∃ k : Nat, n = k := ⟨n.toNat, by omega⟩
    refine long_in n cr c clen ccap w (by omega) (by omega) hc (fun ad had h0 => ?_)
    obtain ⟨g, off, e, hg, _⟩ := hc h0
    rw [had] at e
    cases e
    exact Nat.ne_of_lt hg

theorem rc_of_row {w : World} {x : Addr} {len : Nat} {zs : List Int} (hl : len ≤ zs.length) (hc : ∀ i, i < zs.length → w.cell? (x.add i) = some (.int .i64 (zs.getD i 0))) : Rc w (some x) len := fun h => by
  have h0 := hc 0 (by omega)
  obtain ⟨g, off, spot⟩ := x
  have hs : spot = none := by
    cases spot with
    | none => rfl
    | some s =>
      exfalso
      simp only [Addr.add, if_true] at h0
      unfold World.cell? at h0
      split at h0
      · simp at h0
      · cases h0
  subst hs
  refine ⟨g, off, rfl, ?_, fun j hj => ⟨_, by have := hc j (by omega); rwa [addr_add] at this⟩⟩
  rw [addr_add] at h0
  unfold World.cell? at h0
  apply Nat.lt_of_not_le
  intro hge
  rw [Array.getElem?_eq_none hge] at h0
  cases h0

end Go.Proofs.Ytobafefpkkahjaa

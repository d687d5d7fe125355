/- LineLiteral: the walk. -/
import Derived.Test.YtobafefpkkahjaaKeep
namespace Go.Proofs.Ytobafefpkkahjaa
open Go.RowKit

theorem lit_big (a b : Option Addr) (n ncap m mcap : Nat) (c : Int) (w : World) (h : 1200 < n ∨ 200 < m) (hl : n ≤ 9223372036854775807) (hm : m ≤ 9223372036854775807) :
    Calls Try.prog 7 #[.slice a n ncap, .slice b m mcap, .int .i64 c] w fun e w' => e = .returned (.bool true) ∧ Below w.heap.size w w' := by
  by_cases h1 : 1200 < n
  · clear h
    go_enter Try.func7, Try.ntmps7
    go_wp2
    go_ret
    exact ⟨rfl, Below.refl _ _⟩
  · have h2 : 200 < m := by omega
    clear h
    go_enter Try.func7, Try.ntmps7
    go_wp2
    go_ret
    exact ⟨rfl, Below.refl _ _⟩

set_option maxHeartbeats 1600000 in
theorem lit_in (a b : Option Addr) (ncap mcap : Nat) (bs ts : List UInt8) (c : Int) (w : World) (hra : Rd w a bs) (hrb : Rd w b ts) (h1 : bs.length ≤ 1200) (h2 : ts.length ≤ 200) :
    Calls Try.prog 7 #[.slice a bs.length ncap, .slice b ts.length mcap, .int .i64 c] w fun e w' => e = .returned (.bool true) ∧ Below w.heap.size w w' := by
  have HA := Lib.hid hra
  have HB := Lib.hid hrb
  clear hra hrb
  go_enter Try.func7, Try.ntmps7
  go_wp2_with fail
  refine (new_any _).mono ?_
  rintro e w2 ⟨rfl, hw2⟩
  have h2' := Own.new w _ (Below.refl _ _)
  rw [hw2] at h2'
  have H2 := Lib.hid h2'
  clear h2' hw2
  go_wp2_with fail
  refine (want_ok _ none 0 [] (-1) false bs.length _ H2.out.x (by omega) (by omega)).mono ?_
  rintro e w3 ⟨rfl, hx3, ht3⟩
  have H3 := Lib.hid (H2.out.step hx3 ht3 (After.none _ _))
  clear hx3 ht3 H2
  go_wp2_with fail
  go_loopw [8] (fun i wr => ∃ k : Nat, k ≤ ts.length ∧ i = .int .i64 k ∧ wr = w3 ∧ ∀ j, j < k → (N8 ts).getD j 0 ≠ 10 ∧ (N8 ts).getD j 0 ≠ 13) (fun i _ => ts.length - (intOf i).toNat)
  case atStart => exact ⟨0, Nat.zero_le _, rfl, rfl, fun j h => absurd h (by omega)⟩
  case round =>
    obtain ⟨k, hk, rfl, rfl, hall⟩ := hrel
    have HALL := Lib.hid hall
    clear hall
    by_cases hlt : k < ts.length
    · obtain ⟨g, off, rfl, _, hc⟩ := (H3.out.rd HB.out) (by omega)
      have hcell := hc k (by omega)
      have haddr := addr_add g off k
      clear hc
      by_cases d1 : (N8 ts).getD k 0 = 10
      · rw [d1] at hcell
        go_wp2
        go_ret
        exact ⟨rfl, H3.out.bel⟩
      · by_cases d2 : (N8 ts).getD k 0 = 13
        · rw [d2] at hcell
          go_wp2
          go_ret
          exact ⟨rfl, H3.out.bel⟩
        · have HD : Hid ((N8 ts).getD k 0 ≠ 10 ∧ (N8 ts).getD k 0 ≠ 13) := ⟨d1, d2⟩
          generalize hg : (N8 ts).getD k 0 = c at d1 d2 hcell HD
          have HG := Lib.hid hg
          have b1 : (c == 10) = false := by simpa using d1
          have b2 : (c == 13) = false := by simpa using d2
          clear hg d1 d2
          go_wp2
          refine ⟨⟨k + 1, by omega, by go_num, by trivial, fun j hj => ?_⟩, by simp [intOf]; omega⟩
          rcases Nat.lt_succ_iff_lt_or_eq.1 hj with h1 | h1
          · exact HALL.out j h1
          · subst h1
            rw [HG.out]
            exact HD
    · obtain rfl : k = ts.length := by omega
      have hfree : ∀ c : UInt8, (c = 10 ∨ c = 13) → ∀ b ∈ ts, b ≠ c := fun c hcc => mem_of_getD (fun j hj => by
        rcases hcc with rfl | rfl
        · exact (HALL.out j (by omega)).1
        · exact (HALL.out j (by omega)).2)
      have HF := Lib.hid hfree
      clear hfree HALL
      have HRA : Hid (Rd wr a bs) := H3.out.rd HA.out
      have HRB : Hid (Rd wr b ts) := H3.out.rd HB.out
      go_wp2_with (at_builtin; refine wpList_append_tl rfl _ _ rfl (some ⟨wr.heap.size, 0, none⟩) 0 [] bs _ rfl rfl (tl_lit wr [] _ rfl) (src_of (HRA.out.alloc (.cells #[] 5)) ncap) (by simp; omega) ?_)
      intro a4 cap4 w4 htl4 ht4 haf4
      have h4 := app1 ht4 haf4
      have H4 := Lib.hid h4
      have HTL4 := Lib.hid htl4
      have HRB4 := Lib.hid ((H3.out.after h4.1).rd HB.out)
      clear htl4 ht4 haf4 h4
      go_wp2_with (at_builtin; refine wpList_append_tl rfl _ _ rfl a4 cap4 bs ts _ rfl rfl HTL4.out (src_of HRB4.out mcap) (by omega) ?_)
      intro a5 cap5 w5 htl5 ht5 haf5
      have h5 := app3 H4.out.1 H4.out.2 ht5 haf5
      have H5 := Lib.hid h5
      have HTL5 := Lib.hid htl5
      clear htl5 ht5 haf5 h5 H4 HTL4 HRB4
      go_wp2_with (at_builtin; refine wpList_append_tn rfl _ _ rfl a5 (bs.length + ts.length) cap5 (bs ++ ts) [10] (by simp) _ rfl rfl (HTL5.out.alloc (.cells #[.int .u8 10] 5)) (src_of (lit_rd w5 [10] (0, 0) _ rfl) 1) (by simp; omega) ?_)
      intro a6 cap6 w6 htl6 ht6 haf6
      rw [← List.append_assoc] at htl6
      have h6 := app2 H5.out.1 H5.out.2 ht6 haf6
      have HO := Lib.hid (H3.out.after h6.1)
      have HLO := Lib.hid h6.2
      have HTL6 := Lib.hid htl6
      clear htl6 ht6 haf6 h6 H5 HTL5 HRA HRB
      obtain ⟨q, hq, hbits⟩ := mask_le c 65535 (by decide)
      have hbits' : bits BinOp.and IntKind.i64 c 65535 = (q : Int) := hbits
      have hrem : (q : Int).tmod ((bs.length : Int) + (ts.length : Int) + 1) = ((q % (bs.length + ts.length + 1) : Nat) : Int) := by
        rw [Int.tmod_eq_emod_of_nonneg (by omega)]; push_cast; rfl
      have hklt : q % (bs.length + ts.length + 1) < bs.length + ts.length + 1 := Nat.mod_lt _ (by omega)
      generalize q % (bs.length + ts.length + 1) = k at hrem hklt
      clear hbits hq
      have hTL := HTL6.out
      have hcapge := hTL.1
      simp only [List.length_append, List.length_singleton] at hcapge
      cases a6 with
      | none => exact absurd (hTL.2.1 rfl) (by omega)
      | some ad6 =>
      obtain ⟨g, off, rfl, hg, -, -⟩ := hTL.2.2 ad6 rfl
      have haddr := addr_add g off k
      clear hTL
      have hPlen : (bs ++ ts ++ [10]).length = bs.length + ts.length + 1 := by simp; omega
      have HP6 : Hid (Kept w6 w.heap.size none (some ⟨g, off, none⟩) (bs ++ ts ++ [10])) := Kept.of HTL6.out.rd (fun ad had => by
        rintro (h | ⟨bd, h, _⟩)
        · have h1 := HLO.out ad had
          have h2 := H3.out.x.inA_lt w.heap.size (.inl rfl)
          omega
        · cases h)
      clear H3 HTL6 HLO
      go_wp2_with fail
      refine (feed_ok' _ none 0 [] bs.length false _ k cap6 ((bs ++ ts ++ [10]).take k) _ (by rw [List.length_take, hPlen]; omega) HO.out.x (HP6.out.rd.take k) (by simp; omega)).mono ?_
      rintro e w7 ⟨a7, cap7, rfl, hx7, ht7, haf7⟩
      have H7 := Lib.hid (HO.out.step hx7 ht7 haf7)
      have HP7 := Lib.hid (HP6.out.step ht7 haf7)
      clear hx7 ht7 haf7 HO HP6
      go_wp2_with fail
      have htk : ((bs ++ ts ++ [10]).take k).length = k := by rw [List.length_take, hPlen]; omega
      by_cases hk : bs.length ≤ k
      · have hstep : step ([] ++ (bs ++ ts ++ [10]).take k) bs.length false = ⟨3, bs, true, ((bs ++ ts ++ [10]).take k).drop bs.length, -1, false⟩ := by
          unfold step
          rw [if_pos (by omega), if_neg (by rw [List.nil_append, htk]; omega), List.nil_append, Int.toNat_natCast, List.take_take, Nat.min_eq_left hk, List.append_assoc, List.take_left]
        refine (next_any _ a7 cap7 _ _ false _ H7.out.x (by omega) (by rw [List.nil_append, htk]; omega)).mono ?_
        rw [hstep]
        rintro e w8 ⟨r, rc, a8, cap8, rfl, hr, hra, hx8, ht8, haf8⟩
        have HK8 := Lib.hid (Kept.told H7.out.x hr hra haf8)
        have H8 := Lib.hid (H7.out.step hx8 ht8 (haf8.after _))
        have HP8 := Lib.hid (HP7.out.step ht8 (haf8.after _))
        clear hr hra hx8 ht8 haf8 hstep H7 HP7
        have HE8 := Lib.hid (Blk.new H8.out.x (.cells #[.int .i64 3, .slice r bs.length rc] 30))
        have HK9 := Lib.hid (HK8.out.alloc (.cells #[.int .i64 3, .slice r bs.length rc] 30))
        have HP9 := Lib.hid (HP8.out.alloc (.cells #[.int .i64 3, .slice r bs.length rc] 30))
        have H9 := Lib.hid (H8.out.alloc (.cells #[.int .i64 3, .slice r bs.length rc] 30))
        clear H8 HK8 HP8
        have hkd : ((bs.length : Int) ≤ (k : Int)) = True := by simp; omega
        go_wp2_with fail
        refine (feed_ok' _ a8 cap8 _ (-1) false (some ⟨g, off + k, none⟩) (bs.length + ts.length + 1 - k) (cap6 - k) ((bs ++ ts ++ [10]).drop k) _ (by rw [List.length_drop, hPlen]) H9.out.x (HP9.out.rd.drop k) (by rw [List.length_drop, htk]; omega)).mono ?_
        rintro e w10 ⟨a10, cap10, rfl, hx10, ht10, haf10⟩
        have hbs : ((bs ++ ts ++ [10]).take k).drop bs.length ++ (bs ++ ts ++ [10]).drop k = ts ++ 10 :: [] := by
          have : ((bs ++ ts ++ [10]).take k ++ (bs ++ ts ++ [10]).drop k).drop bs.length = ts ++ 10 :: [] := by
            rw [List.take_append_drop, List.append_assoc, List.drop_left]
          rw [List.drop_append_of_le_length (by rw [htk]; exact hk)] at this
          exact this
        rw [hbs] at hx10
        have H10 := Lib.hid (H9.out.step hx10 ht10 haf10)
        have HK10 := Lib.hid (HK9.out.step ht10 haf10)
        have HE10 := Lib.hid (HE8.out.step ht10 haf10)
        clear hx10 ht10 haf10 hbs H9 HK9 HE8 HP9
        go_wp2_with fail
        have hstep : step (ts ++ 10 :: []) (-1) false = ⟨1, ts, true, [], -1, false⟩ := by
          have := step_line ts [] false (HF.out 10 (.inl rfl))
          rw [trim13_free ts (HF.out 13 (.inr rfl))] at this
          have hd : decide (300 < ts.length) = false := by simp; omega
          simpa [hd] using this
        refine (next_any _ a10 cap10 _ (-1) false _ H10.out.x (by decide) (by simp; omega)).mono ?_
        rw [hstep]
        rintro e w13 ⟨r2, rc2, a13, cap13, rfl, hr, hra, hx13, ht13, haf13⟩
        have H13 := Lib.hid ((H10.out.step hx13 ht13 (haf13.after _)).alloc (.cells #[.int .i64 1, .slice r2 ts.length rc2] 30))
        have HK13 := Lib.hid ((HK10.out.step ht13 (haf13.after _)).alloc (.cells #[.int .i64 1, .slice r2 ts.length rc2] 30))
        have he13 := (HE10.out.step ht13 (haf13.after _)).alloc (.cells #[.int .i64 1, .slice r2 ts.length rc2] 30)
        have c0 : (w13.alloc (.cells #[.int .i64 1, .slice r2 ts.length rc2] 30)).cell? ⟨w8.heap.size, 0, none⟩ = some (.int .i64 3) := blk_cell he13.at_
        have c1 : (w13.alloc (.cells #[.int .i64 1, .slice r2 ts.length rc2] 30)).cell? ⟨w8.heap.size, 1, none⟩ = some (.slice r bs.length rc) := blk_cell he13.at_
        have hv1 := HK13.out.rd.convert rc
        have hv2 := (H13.out.rd HA.out).convert ncap
        have hv3 := (hr.alloc (.cells #[.int .i64 1, .slice r2 ts.length rc2] 30)).convert rc2
        have hv4 := (H13.out.rd HB.out).convert mcap
        have hs1 := str_eq bs
        have hs2 := str_eq ts
        clear hr hra hx13 ht13 haf13 hstep H10 HK10 HE10 he13
        go_wp2_with fail
        refine (known_any _).mono ?_
        rintro e w20 ⟨rfl, hb20⟩
        go_wp2_with fail
        go_ret
        exact ⟨rfl, H13.out.bel.trans (hb20.mono H13.out.bel.size)⟩
      · have hstep : step ([] ++ (bs ++ ts ++ [10]).take k) bs.length false = ⟨0, [], false, [] ++ (bs ++ ts ++ [10]).take k, bs.length, false⟩ := by
          unfold step
          rw [if_pos (by omega), if_pos (by rw [List.nil_append, htk]; omega)]
        refine (next_any _ a7 cap7 _ _ false _ H7.out.x (by omega) (by rw [List.nil_append, htk]; omega)).mono ?_
        rw [hstep]
        rintro e w8 ⟨r, rc, a8, cap8, rfl, hr, hra, hx8, ht8, haf8⟩
        have H8 := Lib.hid (H7.out.step hx8 ht8 (haf8.after _))
        have HP8 := Lib.hid (HP7.out.step ht8 (haf8.after _))
        clear hr hra hx8 ht8 haf8 hstep H7 HP7
        have HE8 := Lib.hid (Blk.new H8.out.x (.cells #[.int .i64 0, .slice r 0 rc] 30))
        have HP9 := Lib.hid (HP8.out.alloc (.cells #[.int .i64 0, .slice r 0 rc] 30))
        have H9 := Lib.hid (H8.out.alloc (.cells #[.int .i64 0, .slice r 0 rc] 30))
        have HW8 : Hid (w.heap.size ≤ w8.heap.size) := H8.out.bel.size
        clear H8 HP8
        have hkd : ((bs.length : Int) ≤ (k : Int)) = False := by simp; omega
        go_wp2_with fail
        refine (feed_ok' _ a8 cap8 _ bs.length false (some ⟨g, off + k, none⟩) (bs.length + ts.length + 1 - k) (cap6 - k) ((bs ++ ts ++ [10]).drop k) _ (by rw [List.length_drop, hPlen]) H9.out.x (HP9.out.rd.drop k) (by rw [List.nil_append, htk]; omega)).mono ?_
        rintro e w10 ⟨a10, cap10, rfl, hx10, ht10, haf10⟩
        have hbs : [] ++ (bs ++ ts ++ [10]).take k ++ (bs ++ ts ++ [10]).drop k = bs ++ ts ++ [10] := by
          rw [List.nil_append, List.take_append_drop]
        rw [hbs] at hx10
        have H10 := Lib.hid (H9.out.step hx10 ht10 haf10)
        have HE10 := Lib.hid (HE8.out.step ht10 haf10)
        clear hx10 ht10 haf10 hbs H9 HE8 HP9
        go_wp2_with fail
        have hstep : step (bs ++ ts ++ [10]) bs.length false = ⟨3, bs, true, ts ++ 10 :: [], -1, false⟩ := by
          unfold step
          rw [if_pos (by omega), if_neg (by rw [hPlen]; omega), Int.toNat_natCast, List.append_assoc, List.take_left, List.drop_left]
        refine (next_any _ a10 cap10 _ _ false _ H10.out.x (by omega) (by rw [hPlen]; omega)).mono ?_
        rw [hstep]
        rintro e w11 ⟨r1, rc1, a11, cap11, rfl, hr, hra, hx11, ht11, haf11⟩
        have h11 := H10.out.step hx11 ht11 (haf11.after _)
        have he11 := HE10.out.step ht11 (haf11.after _)
        have hk11 := Kept.told H10.out.x hr hra haf11
        have hb1 := blk_set (o := 0) he11.at_ (.int .i64 3)
        have hb2 := blk_set (o := 1) hb1 (.slice r1 bs.length rc1)
        have hne : ∀ ad, r1 = some ad → ad.block < w11.heap.size → ad.block ≠ w8.heap.size := fun ad had _ => by
          rcases hra ad had with ⟨_, h, _⟩ | h
          · cases h
          · have := blk_lt HE10.out.at_; omega
        have H12 := Lib.hid ((h11.set HW8.out he11.free 0 (.int .i64 3)).set HW8.out he11.free 1 (.slice r1 bs.length rc1))
        have HK12 := Lib.hid ((hk11.set hne 0 (.int .i64 3)).set (E := w8.heap.size) (fun ad had hlt => hne ad had (by simpa [World.setCell] using hlt)) 1 (.slice r1 bs.length rc1))
        have HE12 : Hid (Blk ((w11.setCell ⟨w8.heap.size, 0, none⟩ (.int .i64 3)).setCell ⟨w8.heap.size, 1, none⟩ (.slice r1 bs.length rc1)) w.heap.size a11 w8.heap.size (.cells #[.int .i64 3, .slice r1 bs.length rc1] 30 (0, 0))) := ⟨by simpa using hb2, he11.free⟩
        have c0 : w11.cell? ⟨w8.heap.size, 0, none⟩ = some (.int .i64 0) := blk_cell he11.at_
        have c1 : w11.cell? ⟨w8.heap.size, 1, none⟩ = some (.slice r 0 rc) := blk_cell he11.at_
        have f0 : w11.frozen? ⟨w8.heap.size, 0, none⟩ = false := blk_free he11.at_
        have f1 : w11.frozen? ⟨w8.heap.size, 1, none⟩ = false := blk_free he11.at_
        clear hr hra hx11 ht11 haf11 hstep h11 he11 hk11 hb1 hb2 hne H10 HE10
        go_wp2_with fail
        clear c0 c1 f0 f1
        have hstep : step (ts ++ 10 :: []) (-1) false = ⟨1, ts, true, [], -1, false⟩ := by
          have := step_line ts [] false (HF.out 10 (.inl rfl))
          rw [trim13_free ts (HF.out 13 (.inr rfl))] at this
          have hd : decide (300 < ts.length) = false := by simp; omega
          simpa [hd] using this
        refine (next_any _ a11 cap11 _ (-1) false _ H12.out.x (by decide) (by simp; omega)).mono ?_
        rw [hstep]
        rintro e w13 ⟨r2, rc2, a13, cap13, rfl, hr, hra, hx13, ht13, haf13⟩
        have H13 := Lib.hid ((H12.out.step hx13 ht13 (haf13.after _)).alloc (.cells #[.int .i64 1, .slice r2 ts.length rc2] 30))
        have HK13 := Lib.hid ((HK12.out.step ht13 (haf13.after _)).alloc (.cells #[.int .i64 1, .slice r2 ts.length rc2] 30))
        have he13 := (HE12.out.step ht13 (haf13.after _)).alloc (.cells #[.int .i64 1, .slice r2 ts.length rc2] 30)
        have c0 : (w13.alloc (.cells #[.int .i64 1, .slice r2 ts.length rc2] 30)).cell? ⟨w8.heap.size, 0, none⟩ = some (.int .i64 3) := blk_cell he13.at_
        have c1 : (w13.alloc (.cells #[.int .i64 1, .slice r2 ts.length rc2] 30)).cell? ⟨w8.heap.size, 1, none⟩ = some (.slice r1 bs.length rc1) := blk_cell he13.at_
        have hv1 := HK13.out.rd.convert rc1
        have hv2 := (H13.out.rd HA.out).convert ncap
        have hv3 := (hr.alloc (.cells #[.int .i64 1, .slice r2 ts.length rc2] 30)).convert rc2
        have hv4 := (H13.out.rd HB.out).convert mcap
        have hs1 := str_eq bs
        have hs2 := str_eq ts
        clear hr hra hx13 ht13 haf13 hstep H12 HK12 HE12 he13
        go_wp2_with fail
        refine (known_any _).mono ?_
        rintro e w20 ⟨rfl, hb20⟩
        go_wp2_with fail
        go_ret
        exact ⟨rfl, H13.out.bel.trans (hb20.mono H13.out.bel.size)⟩

theorem lit_walk (a b : Option Addr) (n ncap m mcap : Nat) (bs ts : List UInt8) (hn : bs.length = n) (hm : ts.length = m) (c : Int) (w : World) (hra : Rd w a bs) (hrb : Rd w b ts) (hln : n ≤ 9223372036854775807) (hlm : m ≤ 9223372036854775807) :
    Calls Try.prog 7 #[.slice a n ncap, .slice b m mcap, .int .i64 c] w fun e w' => e = .returned (.bool true) ∧ Below w.heap.size w w' := by
  subst hn hm
  by_cases h : 1200 < bs.length ∨ 200 < ts.length
  · exact lit_big a b _ ncap _ mcap c w h hln hlm
  · exact lit_in a b ncap mcap bs ts c w hra hrb (by omega) (by omega)

end Go.Proofs.Ytobafefpkkahjaa

/- The contract of 'all' (printed by gen_all.py). -/
import Derived.Test.YtobafefpkkahjaaAllA
import Derived.Deep.LoopGhost
namespace Go.Proofs.Ytobafefpkkahjaa
open Go.RowKit

theorem src_ev (w : World) (k s : Value) (g : Nat) (hg : g = w.heap.size) (h1 : k.oneCell' = true) (h2 : s.oneCell' = true) : Src Try.prog 2 26 (.slice (some ⟨g, 0, none⟩) 1 1) 1 [k, s] (w.alloc (.cells #[k, s] 30)) := by
  subst hg
  refine Src.ofSlice _ Try.underlying26 _ _ _ _ (by simp) (fun j u hu => ?_) (fun u hu => ?_)
  · rw [addr_add, Nat.zero_add, blk_cell (blk_new w _)]
    simpa using hu
  · simp only [List.mem_cons, List.not_mem_nil, or_false] at hu
    rcases hu with rfl | rfl
    · exact h1
    · exact h2

set_option maxHeartbeats 6400000 in
theorem all_any (L : Nat) (w : World) (hx : XAt w L none 0 [] (-1) false) (b : Option Addr) (bcap : Nat) (bb : List UInt8) (hb : Rd w b bb) (hbl : ∀ ad, b = some ad → 0 < bb.length → ad.block ≠ L) (hbc : bb.length ≤ bcap) (hlen : bb.length ≤ 4096)
    (c : Option Addr) (clen ccap : Nat) (hc : Rc w c clen) (hcl : ∀ ad, c = some ad → 0 < clen → ad.block ≠ L) (hcn : clen ≤ 200) :
    Calls Try.prog 11 #[.pointer (some ⟨L, 0, none⟩), .slice b bb.length bcap, .slice c clen ccap] w fun e w' =>
      ∃ a cap bs d ar n rcap cs, e = .returned (.slice ar n rcap) ∧ Al w w' L a cap bs d ar n rcap cs (E [] bb) := by
  have HX := Lib.hid hx
  have HB := Lib.hid hb
  have HBL := Lib.hid hbl
  have HC := Lib.hid hc
  have HCL := Lib.hid hcl
  clear hx hb hbl hc hcl
  go_enter Try.func11, Try.ntmps11
  go_wp2_with fail
  go_loopg [7, 8, 9] (clen + 1) (fun g out at_ i wr => ∃ (k m : Nat) (a : Option Addr) (cap : Nat) (bs : List UInt8) (d : Bool) (ar : Option Addr) (n rcap : Nat) (cs : List Value) (evs : List (Int × List UInt8)), k ≤ clen + 1 ∧ g = clen + 1 - k ∧ i = .int .i64 k ∧ at_ = .int .i64 m ∧ m ≤ bb.length ∧ out = .slice ar n rcap ∧
    Hid (Al w wr L a cap bs d ar n rcap cs evs ∧ Sync (E [] bb) evs bs (bb.drop m) d ∧ evs.length + bs.length ≤ m ∧ (k = clen + 1 → evs = E [] bb)))
  case atStart =>
    exact ⟨0, 0, none, 0, [], false, none, 0, 0, [], [], by omega, rfl, rfl, rfl, Nat.zero_le _, rfl, Al.start HX.out, Sync.start bb, Nat.le_refl _, fun h => absurd h (by omega)⟩
  case round =>
    obtain ⟨k, m, a, cap, bs, d, ar, n, rcap, cs, evs, hk, rfl, rfl, rfl, hm, rfl, hH⟩ := hrel
    have HRB : Hid (Rd wr b bb) := hH.out.1.rd HB.out HBL.out
    have HN : Hid (evs.length = n) := hH.out.1.num
    by_cases hlt : k ≤ clen
    · by_cases hlt2 : k < clen
      · obtain ⟨cg, coff, rfl, hcg, hcc⟩ := (HC.out.touch hH.out.1.t (fun ad had hl => HCL.out ad had hl)) (by omega)
        obtain ⟨v, hv⟩ := hcc k hlt2
        obtain ⟨p, hp, hbits⟩ := mask_le v 63 (by decide)
        have hbits' : bits BinOp.and IntKind.i64 v 63 = (p : Int) := hbits
        have haddr := addr_add cg coff k
        obtain ⟨q, hmq, hql, hqe⟩ : ∃ q : Nat, m ≤ q ∧ q ≤ bb.length ∧ min (bb.length : Int) ((m : Int) + (p : Int)) = (q : Int) := ⟨min bb.length (m + p), by omega, by omega, by omega⟩
        have hkq : k = clen → q = bb.length := fun h => absurd h (by omega)
        have HKQ := Lib.hid hkq
        clear hcc hbits hkq hcg
        by_cases hcap : bcap = m
        · subst hcap
          have hqm : q = bcap := by omega
          subst hqm
          go_wp2_with fail
          refine (feed_ok' L a cap bs (-1) d b 0 0 [] _ (by first | (simp; omega) | simp) hH.out.1.x (Rd.nil _ _) (by have := hH.out.2.2.1; omega)).mono ?_
          rintro e w2 ⟨a2, cap2, rfl, hx2, ht2, haf2⟩
          have hS2 : Sync (E [] bb) evs (bs ++ []) (bb.drop q) d := Sync.feed (by
            rw [List.nil_append]
            exact hH.out.2.1)
          have H2 : Hid (Al w w2 L a2 cap2 (bs ++ []) d ar n rcap cs evs ∧ Sync (E [] bb) evs (bs ++ []) (bb.drop q) d ∧ evs.length + (bs ++ []).length ≤ q) :=
            ⟨hH.out.1.step hx2 ht2 haf2, hS2, by have := hH.out.2.2.1; first | (simp; omega) | simp⟩
          clear hx2 ht2 haf2 hS2 hH HRB
          go_wp2_with fail
          go_loopg [7, 11] 4097 (fun g out kv wq => ∃ (kk : Nat) (a : Option Addr) (cap : Nat) (bs : List UInt8) (d : Bool) (ar : Option Addr) (n rcap : Nat) (cs : List Value) (evs : List (Int × List UInt8)), g + kk = 4097 ∧ kv = .int .i64 kk ∧ out = .slice ar n rcap ∧
            Hid (Al w wq L a cap bs d ar n rcap cs evs ∧ Sync (E [] bb) evs bs (bb.drop q) d ∧ evs.length + bs.length ≤ q ∧ kk + bs.length ≤ 4096))
          case atStart =>
            exact ⟨0, a2, cap2, _, d, ar, n, rcap, cs, evs, rfl, rfl, rfl, H2.out.1, H2.out.2.1, H2.out.2.2, by have := H2.out.2.2; omega⟩
          case round =>
            obtain ⟨kk, a3, cap3, bs3, d3, ar3, n3, rcap3, cs3, evs3, hgk, rfl, rfl, hI⟩ := hrel
            have hkk : (kk : Int) < 5000 := by have := hI.out.2.2.2; omega
            have HGK := Lib.hid hgk
            clear H2 hgk
            go_wp2_with fail
            refine (next_any L a3 cap3 bs3 (-1) d3 _ hI.out.1.x (by decide) (by have := hI.out.2.2.2; omega)).mono ?_
            have h1 := hI.out.2.1.told
            have h2 := hI.out.2.1.none_
            generalize step bs3 (-1) d3 = st at h1 h2 ⊢
            obtain ⟨kind, data, ok, bs4, want4, d4⟩ := st
            rintro e w4 ⟨r, rc, a4, cap4, rfl, hr, hra, hx4, ht4, haf4⟩
            have hr' : Rd w4 r data := hr
            have hx4' : XAt w4 L a4 cap4 bs4 want4 d4 := hx4
            clear hr hx4
            cases ok with
            | true =>
              obtain ⟨hS4, hw4, hl4⟩ := h1 rfl
              have hw4' : want4 = -1 := hw4
              subst hw4'
              have hl4' : bs4.length < bs3.length := hl4
              have hkp := (Kp.told hI.out.1 hr' hra haf4).alloc (.cells #[.int .i64 kind, .slice r data.length rc] 30)
              have hAl4 := (hI.out.1.step hx4' ht4 (haf4.after _)).alloc (.cells #[.int .i64 kind, .slice r data.length rc] 30)
              have hkp5 := hkp.alloc (.cells #[.int .i64 kind, .slice r data.length rc] 30)
              have hAl5 := hAl4.alloc (.cells #[.int .i64 kind, .slice r data.length rc] 30)
              have H5 : Hid (Kp w _ L a4 ar3 r data ∧ Al w _ L a4 cap4 bs4 d4 ar3 n3 rcap3 cs3 evs3) := ⟨hkp5, hAl5⟩
              have HS4 : Hid (Sync (E [] bb) (evs3 ++ [(kind, data)]) bs4 (bb.drop q) d4) := hS4
              have HL4 : Hid (evs3.length + bs3.length ≤ q ∧ kk + bs3.length ≤ 4096 ∧ evs3.length = n3 ∧ bs4.length < bs3.length) := ⟨hI.out.2.2.1, hI.out.2.2.2, hI.out.1.num, hl4'⟩
              clear hS4 hw4 hl4 hl4' hkp hAl4 hkp5 hAl5 h1 h2 hr' hx4' hra ht4 haf4 hI
              go_wp2_with (at_builtin; refine wpList_append_ev rfl _ _ rfl ar3 n3 rcap3 cs3 _ (.int .i64 kind) (.slice r data.length rc) rfl rfl H5.out.2.row (src_ev _ _ _ _ (by simp) rfl rfl) (by have := HL4.out; omega) ?_)
              intro ar6 rcap6 w6 hrow6 ht6 haf6
              have H6 := Lib.hid (H5.out.2.push H5.out.1 hrow6 ht6 haf6)
              clear hrow6 ht6 haf6 H5
              go_wp2_with fail
              go_roundg (4097 - (kk + 1))
              case measure => have := HGK.out; have := HL4.out; omega
              case rel => exact ⟨kk + 1, a4, cap4, bs4, d4, ar6, n3 + 1, rcap6, _, _, by have := HGK.out; have := HL4.out; omega, by go_num, rfl, H6.out, HS4.out, by have := HL4.out; simp; omega, by have := HL4.out; omega⟩
            | false =>
              obtain ⟨hS4, hw4, hl4, hd4, hk4, hT4⟩ := h2 rfl
              have hw4' : want4 = -1 := hw4
              subst hw4'
              have hd4' : data = [] := hd4
              subst hd4'
              have hk4' : kind = 0 := hk4
              subst hk4'
              have hl4' : bs4.length ≤ bs3.length := hl4
              have H5 : Hid (Al w _ L a4 cap4 bs4 d4 ar3 n3 rcap3 cs3 evs3) := (hI.out.1.step hx4' ht4 (haf4.after _)).alloc (.cells #[.int .i64 0, .slice r 0 rc] 30)
              have HS4 : Hid (Sync (E [] bb) evs3 bs4 (bb.drop q) d4) := hS4
              have HL4 : Hid (evs3.length + bs4.length ≤ q) := by have := hI.out.2.2.1; show _ ≤ _; omega
              have HT4 : Hid (k + 1 = clen + 1 → evs3 = E [] bb) := fun hke => hT4 (by rw [HKQ.out (by omega)]; simp)
              clear hS4 hw4 hl4 hl4' hd4 hk4 hT4 h1 h2 hr' hx4' hra ht4 haf4 hI
              go_wp2_with fail
              go_roundg (clen + 1 - (k + 1))
              case measure => omega
              case rel => exact ⟨k + 1, q, a4, cap4, bs4, d4, ar3, n3, rcap3, cs3, evs3, by omega, rfl, by go_num, by first | rfl | go_num, by omega, rfl, H5.out, HS4.out, HL4.out, fun h => HT4.out (by first | exact h | trivial)⟩
        · have hcap' : ¬ m = bcap := fun h => hcap h.symm
          go_wp2_with fail
          refine (feed_ok' L a cap bs (-1) d (b.map (fun x => x.add m)) (q - m) (bcap - m) ((bb.drop m).take (q - m)) _ (by first | (simp; omega) | simp) hH.out.1.x (by have := rd_piece HRB.out m q hql bcap hbc; rwa [if_neg hcap] at this) (by have := hH.out.2.2.1; omega)).mono ?_
          rintro e w2 ⟨a2, cap2, rfl, hx2, ht2, haf2⟩
          have hS2 : Sync (E [] bb) evs (bs ++ ((bb.drop m).take (q - m))) (bb.drop q) d := Sync.feed (by
            rw [show bb.drop q = (bb.drop m).drop (q - m) by rw [List.drop_drop]; congr 1; omega, List.take_append_drop]
            exact hH.out.2.1)
          have H2 : Hid (Al w w2 L a2 cap2 (bs ++ ((bb.drop m).take (q - m))) d ar n rcap cs evs ∧ Sync (E [] bb) evs (bs ++ ((bb.drop m).take (q - m))) (bb.drop q) d ∧ evs.length + (bs ++ ((bb.drop m).take (q - m))).length ≤ q) :=
            ⟨hH.out.1.step hx2 ht2 haf2, hS2, by have := hH.out.2.2.1; first | (simp; omega) | simp⟩
          clear hx2 ht2 haf2 hS2 hH HRB
          go_wp2_with fail
          go_loopg [7, 11] 4097 (fun g out kv wq => ∃ (kk : Nat) (a : Option Addr) (cap : Nat) (bs : List UInt8) (d : Bool) (ar : Option Addr) (n rcap : Nat) (cs : List Value) (evs : List (Int × List UInt8)), g + kk = 4097 ∧ kv = .int .i64 kk ∧ out = .slice ar n rcap ∧
            Hid (Al w wq L a cap bs d ar n rcap cs evs ∧ Sync (E [] bb) evs bs (bb.drop q) d ∧ evs.length + bs.length ≤ q ∧ kk + bs.length ≤ 4096))
          case atStart =>
            exact ⟨0, a2, cap2, _, d, ar, n, rcap, cs, evs, rfl, rfl, rfl, H2.out.1, H2.out.2.1, H2.out.2.2, by have := H2.out.2.2; omega⟩
          case round =>
            obtain ⟨kk, a3, cap3, bs3, d3, ar3, n3, rcap3, cs3, evs3, hgk, rfl, rfl, hI⟩ := hrel
            have hkk : (kk : Int) < 5000 := by have := hI.out.2.2.2; omega
            have HGK := Lib.hid hgk
            clear H2 hgk
            go_wp2_with fail
            refine (next_any L a3 cap3 bs3 (-1) d3 _ hI.out.1.x (by decide) (by have := hI.out.2.2.2; omega)).mono ?_
            have h1 := hI.out.2.1.told
            have h2 := hI.out.2.1.none_
            generalize step bs3 (-1) d3 = st at h1 h2 ⊢
            obtain ⟨kind, data, ok, bs4, want4, d4⟩ := st
            rintro e w4 ⟨r, rc, a4, cap4, rfl, hr, hra, hx4, ht4, haf4⟩
            have hr' : Rd w4 r data := hr
            have hx4' : XAt w4 L a4 cap4 bs4 want4 d4 := hx4
            clear hr hx4
            cases ok with
            | true =>
              obtain ⟨hS4, hw4, hl4⟩ := h1 rfl
              have hw4' : want4 = -1 := hw4
              subst hw4'
              have hl4' : bs4.length < bs3.length := hl4
              have hkp := (Kp.told hI.out.1 hr' hra haf4).alloc (.cells #[.int .i64 kind, .slice r data.length rc] 30)
              have hAl4 := (hI.out.1.step hx4' ht4 (haf4.after _)).alloc (.cells #[.int .i64 kind, .slice r data.length rc] 30)
              have hkp5 := hkp.alloc (.cells #[.int .i64 kind, .slice r data.length rc] 30)
              have hAl5 := hAl4.alloc (.cells #[.int .i64 kind, .slice r data.length rc] 30)
              have H5 : Hid (Kp w _ L a4 ar3 r data ∧ Al w _ L a4 cap4 bs4 d4 ar3 n3 rcap3 cs3 evs3) := ⟨hkp5, hAl5⟩
              have HS4 : Hid (Sync (E [] bb) (evs3 ++ [(kind, data)]) bs4 (bb.drop q) d4) := hS4
              have HL4 : Hid (evs3.length + bs3.length ≤ q ∧ kk + bs3.length ≤ 4096 ∧ evs3.length = n3 ∧ bs4.length < bs3.length) := ⟨hI.out.2.2.1, hI.out.2.2.2, hI.out.1.num, hl4'⟩
              clear hS4 hw4 hl4 hl4' hkp hAl4 hkp5 hAl5 h1 h2 hr' hx4' hra ht4 haf4 hI
              go_wp2_with (at_builtin; refine wpList_append_ev rfl _ _ rfl ar3 n3 rcap3 cs3 _ (.int .i64 kind) (.slice r data.length rc) rfl rfl H5.out.2.row (src_ev _ _ _ _ (by simp) rfl rfl) (by have := HL4.out; omega) ?_)
              intro ar6 rcap6 w6 hrow6 ht6 haf6
              have H6 := Lib.hid (H5.out.2.push H5.out.1 hrow6 ht6 haf6)
              clear hrow6 ht6 haf6 H5
              go_wp2_with fail
              go_roundg (4097 - (kk + 1))
              case measure => have := HGK.out; have := HL4.out; omega
              case rel => exact ⟨kk + 1, a4, cap4, bs4, d4, ar6, n3 + 1, rcap6, _, _, by have := HGK.out; have := HL4.out; omega, by go_num, rfl, H6.out, HS4.out, by have := HL4.out; simp; omega, by have := HL4.out; omega⟩
            | false =>
              obtain ⟨hS4, hw4, hl4, hd4, hk4, hT4⟩ := h2 rfl
              have hw4' : want4 = -1 := hw4
              subst hw4'
              have hd4' : data = [] := hd4
              subst hd4'
              have hk4' : kind = 0 := hk4
              subst hk4'
              have hl4' : bs4.length ≤ bs3.length := hl4
              have H5 : Hid (Al w _ L a4 cap4 bs4 d4 ar3 n3 rcap3 cs3 evs3) := (hI.out.1.step hx4' ht4 (haf4.after _)).alloc (.cells #[.int .i64 0, .slice r 0 rc] 30)
              have HS4 : Hid (Sync (E [] bb) evs3 bs4 (bb.drop q) d4) := hS4
              have HL4 : Hid (evs3.length + bs4.length ≤ q) := by have := hI.out.2.2.1; show _ ≤ _; omega
              have HT4 : Hid (k + 1 = clen + 1 → evs3 = E [] bb) := fun hke => hT4 (by rw [HKQ.out (by omega)]; simp)
              clear hS4 hw4 hl4 hl4' hd4 hk4 hT4 h1 h2 hr' hx4' hra ht4 haf4 hI
              go_wp2_with fail
              go_roundg (clen + 1 - (k + 1))
              case measure => omega
              case rel => exact ⟨k + 1, q, a4, cap4, bs4, d4, ar3, n3, rcap3, cs3, evs3, by omega, rfl, by go_num, by first | rfl | go_num, by omega, rfl, H5.out, HS4.out, HL4.out, fun h => HT4.out (by first | exact h | trivial)⟩
      · obtain rfl : k = clen := by omega
        by_cases hcap : bcap = m
        · subst hcap
          have hqm : bcap = bb.length := by omega
          subst hqm
          go_wp2_with fail
          refine (feed_ok' L a cap bs (-1) d b 0 0 [] _ (by first | (simp; omega) | simp) hH.out.1.x (Rd.nil _ _) (by have := hH.out.2.2.1; omega)).mono ?_
          rintro e w2 ⟨a2, cap2, rfl, hx2, ht2, haf2⟩
          have hS2 : Sync (E [] bb) evs (bs ++ []) (bb.drop bb.length) d := Sync.feed (by
            rw [List.nil_append]
            exact hH.out.2.1)
          have H2 : Hid (Al w w2 L a2 cap2 (bs ++ []) d ar n rcap cs evs ∧ Sync (E [] bb) evs (bs ++ []) (bb.drop bb.length) d ∧ evs.length + (bs ++ []).length ≤ bb.length) :=
            ⟨hH.out.1.step hx2 ht2 haf2, hS2, by have := hH.out.2.2.1; first | (simp; omega) | simp⟩
          clear hx2 ht2 haf2 hS2 hH HRB
          go_wp2_with fail
          go_loopg [7, 11] 4097 (fun g out kv wq => ∃ (kk : Nat) (a : Option Addr) (cap : Nat) (bs : List UInt8) (d : Bool) (ar : Option Addr) (n rcap : Nat) (cs : List Value) (evs : List (Int × List UInt8)), g + kk = 4097 ∧ kv = .int .i64 kk ∧ out = .slice ar n rcap ∧
            Hid (Al w wq L a cap bs d ar n rcap cs evs ∧ Sync (E [] bb) evs bs (bb.drop bb.length) d ∧ evs.length + bs.length ≤ bb.length ∧ kk + bs.length ≤ 4096))
          case atStart =>
            exact ⟨0, a2, cap2, _, d, ar, n, rcap, cs, evs, rfl, rfl, rfl, H2.out.1, H2.out.2.1, H2.out.2.2, by have := H2.out.2.2; omega⟩
          case round =>
            obtain ⟨kk, a3, cap3, bs3, d3, ar3, n3, rcap3, cs3, evs3, hgk, rfl, rfl, hI⟩ := hrel
            have hkk : (kk : Int) < 5000 := by have := hI.out.2.2.2; omega
            have HGK := Lib.hid hgk
            clear H2 hgk
            go_wp2_with fail
            refine (next_any L a3 cap3 bs3 (-1) d3 _ hI.out.1.x (by decide) (by have := hI.out.2.2.2; omega)).mono ?_
            have h1 := hI.out.2.1.told
            have h2 := hI.out.2.1.none_
            generalize step bs3 (-1) d3 = st at h1 h2 ⊢
            obtain ⟨kind, data, ok, bs4, want4, d4⟩ := st
            rintro e w4 ⟨r, rc, a4, cap4, rfl, hr, hra, hx4, ht4, haf4⟩
            have hr' : Rd w4 r data := hr
            have hx4' : XAt w4 L a4 cap4 bs4 want4 d4 := hx4
            clear hr hx4
            cases ok with
            | true =>
              obtain ⟨hS4, hw4, hl4⟩ := h1 rfl
              have hw4' : want4 = -1 := hw4
              subst hw4'
              have hl4' : bs4.length < bs3.length := hl4
              have hkp := (Kp.told hI.out.1 hr' hra haf4).alloc (.cells #[.int .i64 kind, .slice r data.length rc] 30)
              have hAl4 := (hI.out.1.step hx4' ht4 (haf4.after _)).alloc (.cells #[.int .i64 kind, .slice r data.length rc] 30)
              have hkp5 := hkp.alloc (.cells #[.int .i64 kind, .slice r data.length rc] 30)
              have hAl5 := hAl4.alloc (.cells #[.int .i64 kind, .slice r data.length rc] 30)
              have H5 : Hid (Kp w _ L a4 ar3 r data ∧ Al w _ L a4 cap4 bs4 d4 ar3 n3 rcap3 cs3 evs3) := ⟨hkp5, hAl5⟩
              have HS4 : Hid (Sync (E [] bb) (evs3 ++ [(kind, data)]) bs4 (bb.drop bb.length) d4) := hS4
              have HL4 : Hid (evs3.length + bs3.length ≤ bb.length ∧ kk + bs3.length ≤ 4096 ∧ evs3.length = n3 ∧ bs4.length < bs3.length) := ⟨hI.out.2.2.1, hI.out.2.2.2, hI.out.1.num, hl4'⟩
              clear hS4 hw4 hl4 hl4' hkp hAl4 hkp5 hAl5 h1 h2 hr' hx4' hra ht4 haf4 hI
              go_wp2_with (at_builtin; refine wpList_append_ev rfl _ _ rfl ar3 n3 rcap3 cs3 _ (.int .i64 kind) (.slice r data.length rc) rfl rfl H5.out.2.row (src_ev _ _ _ _ (by simp) rfl rfl) (by have := HL4.out; omega) ?_)
              intro ar6 rcap6 w6 hrow6 ht6 haf6
              have H6 := Lib.hid (H5.out.2.push H5.out.1 hrow6 ht6 haf6)
              clear hrow6 ht6 haf6 H5
              go_wp2_with fail
              go_roundg (4097 - (kk + 1))
              case measure => have := HGK.out; have := HL4.out; omega
              case rel => exact ⟨kk + 1, a4, cap4, bs4, d4, ar6, n3 + 1, rcap6, _, _, by have := HGK.out; have := HL4.out; omega, by go_num, rfl, H6.out, HS4.out, by have := HL4.out; simp; omega, by have := HL4.out; omega⟩
            | false =>
              obtain ⟨hS4, hw4, hl4, hd4, hk4, hT4⟩ := h2 rfl
              have hw4' : want4 = -1 := hw4
              subst hw4'
              have hd4' : data = [] := hd4
              subst hd4'
              have hk4' : kind = 0 := hk4
              subst hk4'
              have hl4' : bs4.length ≤ bs3.length := hl4
              have H5 : Hid (Al w _ L a4 cap4 bs4 d4 ar3 n3 rcap3 cs3 evs3) := (hI.out.1.step hx4' ht4 (haf4.after _)).alloc (.cells #[.int .i64 0, .slice r 0 rc] 30)
              have HS4 : Hid (Sync (E [] bb) evs3 bs4 (bb.drop bb.length) d4) := hS4
              have HL4 : Hid (evs3.length + bs4.length ≤ bb.length) := by have := hI.out.2.2.1; show _ ≤ _; omega
              have HT4 : Hid (k + 1 = k + 1 → evs3 = E [] bb) := fun _ => hT4 (by simp)
              clear hS4 hw4 hl4 hl4' hd4 hk4 hT4 h1 h2 hr' hx4' hra ht4 haf4 hI
              go_wp2_with fail
              go_roundg (k + 1 - (k + 1))
              case measure => omega
              case rel => exact ⟨k + 1, bb.length, a4, cap4, bs4, d4, ar3, n3, rcap3, cs3, evs3, by omega, rfl, by go_num, by first | rfl | go_num, by omega, rfl, H5.out, HS4.out, HL4.out, fun h => HT4.out (by first | exact h | trivial)⟩
        · have hcap' : ¬ m = bcap := fun h => hcap h.symm
          go_wp2_with fail
          refine (feed_ok' L a cap bs (-1) d (b.map (fun x => x.add m)) (bb.length - m) (bcap - m) ((bb.drop m).take (bb.length - m)) _ (by first | (simp; omega) | simp) hH.out.1.x (by have := rd_piece HRB.out m bb.length (Nat.le_refl _) bcap hbc; rwa [if_neg hcap] at this) (by have := hH.out.2.2.1; omega)).mono ?_
          rintro e w2 ⟨a2, cap2, rfl, hx2, ht2, haf2⟩
          have hS2 : Sync (E [] bb) evs (bs ++ ((bb.drop m).take (bb.length - m))) (bb.drop bb.length) d := Sync.feed (by
            rw [show bb.drop bb.length = (bb.drop m).drop (bb.length - m) by rw [List.drop_drop]; congr 1; omega, List.take_append_drop]
            exact hH.out.2.1)
          have H2 : Hid (Al w w2 L a2 cap2 (bs ++ ((bb.drop m).take (bb.length - m))) d ar n rcap cs evs ∧ Sync (E [] bb) evs (bs ++ ((bb.drop m).take (bb.length - m))) (bb.drop bb.length) d ∧ evs.length + (bs ++ ((bb.drop m).take (bb.length - m))).length ≤ bb.length) :=
            ⟨hH.out.1.step hx2 ht2 haf2, hS2, by have := hH.out.2.2.1; first | (simp; omega) | simp⟩
          clear hx2 ht2 haf2 hS2 hH HRB
          go_wp2_with fail
          go_loopg [7, 11] 4097 (fun g out kv wq => ∃ (kk : Nat) (a : Option Addr) (cap : Nat) (bs : List UInt8) (d : Bool) (ar : Option Addr) (n rcap : Nat) (cs : List Value) (evs : List (Int × List UInt8)), g + kk = 4097 ∧ kv = .int .i64 kk ∧ out = .slice ar n rcap ∧
            Hid (Al w wq L a cap bs d ar n rcap cs evs ∧ Sync (E [] bb) evs bs (bb.drop bb.length) d ∧ evs.length + bs.length ≤ bb.length ∧ kk + bs.length ≤ 4096))
          case atStart =>
            exact ⟨0, a2, cap2, _, d, ar, n, rcap, cs, evs, rfl, rfl, rfl, H2.out.1, H2.out.2.1, H2.out.2.2, by have := H2.out.2.2; omega⟩
          case round =>
            obtain ⟨kk, a3, cap3, bs3, d3, ar3, n3, rcap3, cs3, evs3, hgk, rfl, rfl, hI⟩ := hrel
            have hkk : (kk : Int) < 5000 := by have := hI.out.2.2.2; omega
            have HGK := Lib.hid hgk
            clear H2 hgk
            go_wp2_with fail
            refine (next_any L a3 cap3 bs3 (-1) d3 _ hI.out.1.x (by decide) (by have := hI.out.2.2.2; omega)).mono ?_
            have h1 := hI.out.2.1.told
            have h2 := hI.out.2.1.none_
            generalize step bs3 (-1) d3 = st at h1 h2 ⊢
            obtain ⟨kind, data, ok, bs4, want4, d4⟩ := st
            rintro e w4 ⟨r, rc, a4, cap4, rfl, hr, hra, hx4, ht4, haf4⟩
            have hr' : Rd w4 r data := hr
            have hx4' : XAt w4 L a4 cap4 bs4 want4 d4 := hx4
            clear hr hx4
            cases ok with
            | true =>
              obtain ⟨hS4, hw4, hl4⟩ := h1 rfl
              have hw4' : want4 = -1 := hw4
              subst hw4'
              have hl4' : bs4.length < bs3.length := hl4
              have hkp := (Kp.told hI.out.1 hr' hra haf4).alloc (.cells #[.int .i64 kind, .slice r data.length rc] 30)
              have hAl4 := (hI.out.1.step hx4' ht4 (haf4.after _)).alloc (.cells #[.int .i64 kind, .slice r data.length rc] 30)
              have hkp5 := hkp.alloc (.cells #[.int .i64 kind, .slice r data.length rc] 30)
              have hAl5 := hAl4.alloc (.cells #[.int .i64 kind, .slice r data.length rc] 30)
              have H5 : Hid (Kp w _ L a4 ar3 r data ∧ Al w _ L a4 cap4 bs4 d4 ar3 n3 rcap3 cs3 evs3) := ⟨hkp5, hAl5⟩
              have HS4 : Hid (Sync (E [] bb) (evs3 ++ [(kind, data)]) bs4 (bb.drop bb.length) d4) := hS4
              have HL4 : Hid (evs3.length + bs3.length ≤ bb.length ∧ kk + bs3.length ≤ 4096 ∧ evs3.length = n3 ∧ bs4.length < bs3.length) := ⟨hI.out.2.2.1, hI.out.2.2.2, hI.out.1.num, hl4'⟩
              clear hS4 hw4 hl4 hl4' hkp hAl4 hkp5 hAl5 h1 h2 hr' hx4' hra ht4 haf4 hI
              go_wp2_with (at_builtin; refine wpList_append_ev rfl _ _ rfl ar3 n3 rcap3 cs3 _ (.int .i64 kind) (.slice r data.length rc) rfl rfl H5.out.2.row (src_ev _ _ _ _ (by simp) rfl rfl) (by have := HL4.out; omega) ?_)
              intro ar6 rcap6 w6 hrow6 ht6 haf6
              have H6 := Lib.hid (H5.out.2.push H5.out.1 hrow6 ht6 haf6)
              clear hrow6 ht6 haf6 H5
              go_wp2_with fail
              go_roundg (4097 - (kk + 1))
              case measure => have := HGK.out; have := HL4.out; omega
              case rel => exact ⟨kk + 1, a4, cap4, bs4, d4, ar6, n3 + 1, rcap6, _, _, by have := HGK.out; have := HL4.out; omega, by go_num, rfl, H6.out, HS4.out, by have := HL4.out; simp; omega, by have := HL4.out; omega⟩
            | false =>
              obtain ⟨hS4, hw4, hl4, hd4, hk4, hT4⟩ := h2 rfl
              have hw4' : want4 = -1 := hw4
              subst hw4'
              have hd4' : data = [] := hd4
              subst hd4'
              have hk4' : kind = 0 := hk4
              subst hk4'
              have hl4' : bs4.length ≤ bs3.length := hl4
              have H5 : Hid (Al w _ L a4 cap4 bs4 d4 ar3 n3 rcap3 cs3 evs3) := (hI.out.1.step hx4' ht4 (haf4.after _)).alloc (.cells #[.int .i64 0, .slice r 0 rc] 30)
              have HS4 : Hid (Sync (E [] bb) evs3 bs4 (bb.drop bb.length) d4) := hS4
              have HL4 : Hid (evs3.length + bs4.length ≤ bb.length) := by have := hI.out.2.2.1; show _ ≤ _; omega
              have HT4 : Hid (k + 1 = k + 1 → evs3 = E [] bb) := fun _ => hT4 (by simp)
              clear hS4 hw4 hl4 hl4' hd4 hk4 hT4 h1 h2 hr' hx4' hra ht4 haf4 hI
              go_wp2_with fail
              go_roundg (k + 1 - (k + 1))
              case measure => omega
              case rel => exact ⟨k + 1, bb.length, a4, cap4, bs4, d4, ar3, n3, rcap3, cs3, evs3, by omega, rfl, by go_num, by first | rfl | go_num, by omega, rfl, H5.out, HS4.out, HL4.out, fun h => HT4.out (by first | exact h | trivial)⟩
    · obtain rfl : k = clen + 1 := by omega
      obtain ⟨hAl, _, _, hT⟩ := hH.out
      have hT' := hT rfl
      subst hT'
      have HAL := Lib.hid hAl
      clear hH hAl hT
      go_wp2_with fail
      go_ret
      exact ⟨a, cap, bs, d, ar, n, rcap, cs, rfl, HAL.out⟩

end Go.Proofs.Ytobafefpkkahjaa

/- The reference's Next where a line's end waits. -/
import Derived.Test.YtobafefpkkahjaaRefC
import Derived.Deep.DeepCutAuto
namespace Go.Proofs.Ytobafefpkkahjaa
open Go.RowKit

/-- How many bytes of the line are told. -/
def TrimAt (bs : List UInt8) (i m : Nat) (t : Bool) : Prop := (i = 0 ∧ m = 0 ∧ t = false) ∨ (0 < i ∧ (N8 bs).getD (i - 1) 0 ≠ 13 ∧ m = i ∧ t = false) ∨ (0 < i ∧ (N8 bs).getD (i - 1) 0 = 13 ∧ m = i - 1 ∧ t = true)

theorem trim_at (bs : List UInt8) (i : Nat) (hi : i < bs.length) : ∃ m t, TrimAt bs i m t ∧ m ≤ i ∧ trim13 (bs.take i) = bs.take m := by
  have hl : (bs.take i).length = i := by simp; omega
  by_cases h0 : i = 0
  · subst h0
    exact ⟨0, false, .inl ⟨rfl, rfl, rfl⟩, Nat.le_refl _, by simp [trim13]⟩
  · have hlast : (bs.take i) = bs.take (i - 1) ++ [bs.getD (i - 1) 0] := by
      apply List.ext_getElem?
      intro j
      rw [List.getElem?_take, List.getElem?_append, List.getElem?_take, List.length_take]
      by_cases h1 : j < i - 1
      · rw [if_pos (by omega), if_pos (by omega), if_pos h1]
      · by_cases h2 : j = i - 1
        · subst h2
          rw [if_pos (by omega), if_neg (by omega), List.getD_eq_getElem?_getD, List.getElem?_eq_getElem (by omega)]
          simp [Nat.min_eq_left (show i - 1 ≤ bs.length by omega)]
        · rw [if_neg (by omega), if_neg (by omega)]
          rw [List.getElem?_eq_none (by simp; omega)]
    by_cases h13 : (N8 bs).getD (i - 1) 0 = 13
    · refine ⟨i - 1, true, .inr (.inr ⟨by omega, h13, rfl, rfl⟩), by omega, ?_⟩
      have hb : bs.getD (i - 1) 0 = 13 := by
        rw [N8_get] at h13
        exact UInt8.toNat_inj.1 (by rw [show (13 : UInt8).toNat = 13 from rfl]; omega)
      unfold trim13
      rw [hl, if_pos, List.take_take, Nat.min_eq_left (by omega)]
      rw [hlast, hb]
      unfold Lib.hasSuffix
      simp
    · refine ⟨i, false, .inr (.inl ⟨by omega, h13, rfl, rfl⟩), by omega, ?_⟩
      unfold trim13
      rw [if_neg]
      intro hs
      apply h13
      rw [hlast] at hs
      unfold Lib.hasSuffix at hs
      have hs' : [13] <:+ bs.take (i - 1) ++ [bs.getD (i - 1) 0] := by simpa using hs
      obtain ⟨t, ht⟩ := hs'
      have := List.append_inj_right' ht (by simp)
      rw [N8_get]
      simp at this
      rw [← List.getD_eq_getElem?_getD] at this
      rw [← this]; rfl

/-- The world behind the line's taking. -/
structure MidY (w wx : World) (Y g off : Nat) (bs rest : List UInt8) (n : Int) (dr : Bool) : Prop where
  t : Touch w wx (fun k => k = Y)
  y : ∃ A2 cap2, YAt wx Y A2 cap2 rest false n dr ∧ ∀ ad, A2 = some ad → 0 < rest.length → ad.block ≠ w.heap.size ∧ ad.block = g
  rd : Rd wx (some ⟨g, off, none⟩) bs
  res : wx.heap[w.heap.size]? = some (.cells #[.int .i64 0, .slice none 0 0] 30 (0, 0))

theorem midY_of {w : World} {Y g off cap : Nat} {bs : List UInt8} {n : Int} {dr : Bool} (hy : YAt w Y (some ⟨g, off, none⟩) cap bs false n dr) (j : Nat) (hj : j ≤ bs.length) (h0 : 0 < bs.length) {A2 : Option Addr} {cap2 : Nat}
    (h : (cap = j ∧ A2 = some ⟨g, off, none⟩ ∧ cap2 = 0) ∨ (cap ≠ j ∧ A2 = some ⟨g, off + j, none⟩ ∧ cap2 = cap - j)) :
    MidY w ((w.alloc (.cells #[.int .i64 0, .slice none 0 0] 30)).setCell ⟨Y, 0, none⟩ (.slice A2 (bs.length - j) cap2)) Y g off bs (bs.drop j) n dr := by
  have hle := hy.le
  have hYw := blk_lt hy.cell
  have ht0 : Touch w (w.alloc (.cells #[.int .i64 0, .slice none 0 0] 30)) (fun _ => False) := Touch.alloc w _ _
  have ts := Touch.setCell (w.alloc (.cells #[.int .i64 0, .slice none 0 0] 30)) ⟨Y, 0, none⟩ (.slice A2 (bs.length - j) cap2) (M := fun k => k = Y) rfl
  have t1 : Touch w ((w.alloc (.cells #[.int .i64 0, .slice none 0 0] 30)).setCell ⟨Y, 0, none⟩ (.slice A2 (bs.length - j) cap2)) (fun k => k = Y) := (ht0.weaken (fun _ _ h => h.elim)).trans ts (fun _ _ h => h)
  have hgY : g ≠ Y := hy.ne _ rfl (by omega)
  have rd1 : Rd ((w.alloc (.cells #[.int .i64 0, .slice none 0 0] 30)).setCell ⟨Y, 0, none⟩ (.slice A2 (bs.length - j) cap2)) (some ⟨g, off, none⟩) bs := hy.rd.touch t1 (fun ⟨ad, had, hm⟩ => by cases had; exact hgY hm)
  have hg : g < w.heap.size := by
    obtain ⟨g', off', e, hg, _⟩ := hy.rd h0
    cases e
    exact hg
  have hAb : ∀ ad, A2 = some ad → ad.block = g := fun ad had => by
    rcases h with ⟨_, rfl, _⟩ | ⟨_, rfl, _⟩ <;> (cases had; rfl)
  have b1 := blk_set (o := 0) (blk_touch hy.cell ht0 (fun h => h)) (.slice A2 (bs.length - j) cap2)
  refine ⟨t1, ⟨A2, cap2, ⟨by simpa using b1, ?_, ?_, fun ad had _ => ?_, fun hn => ?_⟩, fun ad had _ => ?_⟩, rd1, blk_touch (blk_new w _) ts (by omega)⟩
  · rcases h with ⟨hc, _, _⟩ | ⟨_, rfl, _⟩
    · rw [List.drop_eq_nil_of_le (by omega)]; exact Rd.nil _ _
    · exact rd1.drop j
  · rw [List.length_drop]
    rcases h with ⟨_, _, rfl⟩ | ⟨_, _, rfl⟩ <;> omega
  · rw [hAb ad had]; exact hgY
  · rcases h with ⟨_, rfl, _⟩ | ⟨_, rfl, _⟩ <;> cases hn
  · rw [hAb ad had]; exact ⟨by omega, rfl⟩

set_option maxRecDepth 10000 in
set_option maxHeartbeats 1600000 in
theorem rnext_line (Y g off : Nat) (cap : Nat) (bs : List UInt8) (n : Int) (dr : Bool) (w : World) (i m : Nat) (hy : YAt w Y (some ⟨g, off, none⟩) cap bs false n dr) (hi : Lib.indexByte bs 10 = (i : Int)) (hlt : i < bs.length) (t : Bool) (hm : TrimAt bs i m t) (hmi : m ≤ i) (hb4 : bs.length ≤ 4096)
    (kind : Int) (data : List UInt8) (hcase : ((dr = true ∨ 300 < m) ∧ kind = 2 ∧ data = []) ∨ (dr = false ∧ ¬ 300 < m ∧ kind = 1 ∧ data = bs.take m)) :
    Calls Try.prog 18 #[.pointer (some ⟨Y, 0, none⟩)] w fun e w' => RTold w Y (some ⟨g, off, none⟩) kind data true (bs.drop (i + 1)) false n false e w' := by
  have hb := blk_alloc (o := .cells #[.int .i64 0, .slice none 0 0] 30) hy.cell
  have c0 : (w.alloc (.cells #[.int .i64 0, .slice none 0 0] 30)).cell? ⟨Y, 0, none⟩ = some (.slice (some ⟨g, off, none⟩) bs.length cap) := blk_cell hb
  have c1 : (w.alloc (.cells #[.int .i64 0, .slice none 0 0] 30)).cell? ⟨Y, 1, none⟩ = some (.bool false) := blk_cell hb
  have hrd : Rd (w.alloc (.cells #[.int .i64 0, .slice none 0 0] 30)) (some ⟨g, off, none⟩) bs := hy.rd.alloc _
  have hcap : bs.length ≤ cap := hy.le
  have HN := Lib.hid (index_some bs i hi)
  have HY := Lib.hid hy
  have HBK := Lib.hid hb
  have HRD := Lib.hid hrd
  have HM := Lib.hid hm
  have HCS := Lib.hid hcase
  clear hy hb hi hrd hm hcase
  go_enter Try.func18, Try.ntmps18
  go_wp2_with fail
  go_loopw [5] (fun v wr => ∃ k : Nat, k ≤ i ∧ v = .int .i64 k ∧ wr = w.alloc (.cells #[.int .i64 0, .slice none 0 0] 30)) (fun v _ => bs.length - (intOf v).toNat)
  case atStart => exact ⟨0, Nat.zero_le _, rfl, rfl⟩
  case round =>
    obtain ⟨k, hk, rfl, rfl⟩ := hrel
    have hklt : k < bs.length := by omega
    obtain ⟨g', off', e, _, hc⟩ := HRD.out (by omega)
    cases e
    have hcell := hc k (by omega)
    have haddr := addr_add g off k
    by_cases hki : k < i
    · have hne := HN.out.1 k hki
      clear hc
      generalize (N8 bs).getD k 0 = c at hcell hne
      have b1 : (c != 10) = true := by simpa using hne
      clear hne
      go_wp2
      go_round
      case rel => exact ⟨k + 1, by omega, by go_num, trivial⟩
      case measure => simp [intOf]; omega
    · obtain rfl : k = i := by omega
      rw [HN.out.2] at hcell
      clear hki hk
      have HC := Lib.hid hc
      clear hc
      go_upto_region 15 with (fail)
      clear hcell haddr
      have f0 : (w.alloc (.cells #[.int .i64 0, .slice none 0 0] 30)).frozen? ⟨Y, 0, none⟩ = false := blk_free HBK.out
      have haddr := addr_add g off (k + 1)
      go_cut [] (fun wx => MidY w wx Y g off bs (bs.drop (k + 1)) n dr)
      case first =>
        by_cases hc2 : cap = k + 1
        · go_wp2_with fail
          go_meet
          exact midY_of HY.out (k + 1) (by omega) (by omega) (.inl ⟨hc2, rfl, rfl⟩)
        · go_wp2_with fail
          go_meet
          exact midY_of HY.out (k + 1) (by omega) (by omega) (.inr ⟨hc2, rfl, rfl⟩)
      case rest =>
        rename World => w2
        obtain ⟨ht2, ⟨A2, cap2, hy2, hab2⟩, hrd2, hres2⟩ := hcut
        clear c0 c1 f0 haddr
        have HT2 := Lib.hid ht2
        have HY2 := Lib.hid hy2
        have HAB2 := Lib.hid hab2
        have HRD2 := Lib.hid hrd2
        have HRES2 := Lib.hid hres2
        have hcb : ∀ j, j < bs.length → w2.cell? ⟨g, off + j, none⟩ = some (.int .u8 ((N8 bs).getD j 0)) := fun j hj => by
          obtain ⟨_, _, e, _, hc⟩ := hrd2 (by omega)
          cases e
          exact hc j hj
        have HCB := Lib.hid hcb
        have HGY : Hid (g ≠ Y) := HY.out.ne _ rfl (by omega)
        clear ht2 hy2 hab2 hrd2 hres2 hcb HRD HC
        go_upto_region 16 with (fail)
        go_cut [113] (fun v wx => v = .bool t ∧ w2 = wx)
        case first =>
          rcases HM.out with ⟨rfl, rfl, rfl⟩ | ⟨hk, h13, rfl, rfl⟩ | ⟨hk, h13, rfl, rfl⟩
          · go_wp2_with fail
            go_meet
            exact ⟨rfl, rfl⟩
          · obtain ⟨k', rfl⟩ : ∃ k', m = k' + 1 := ⟨m - 1, by omega⟩
            have hcell := HCB.out k' (by omega)
            rw [Nat.add_sub_cancel] at h13
            have haddr := addr_add g off k'
            generalize (N8 bs).getD k' 0 = c at hcell h13
            have b1 : (c == 13) = false := by simpa using h13
            clear h13
            go_wp2_with fail
            go_meet
            exact ⟨rfl, rfl⟩
          · obtain ⟨k', rfl⟩ : ∃ k', k = k' + 1 := ⟨k - 1, by omega⟩
            have hcell := HCB.out k' (by omega)
            rw [Nat.add_sub_cancel] at h13
            have haddr := addr_add g off k'
            rw [h13] at hcell
            clear h13
            go_wp2_with fail
            go_meet
            exact ⟨rfl, rfl⟩
        case rest =>
          obtain ⟨rfl, rfl⟩ := hcut
          go_upto_if 113 with (fail)
          go_cut [6] (fun v wx => v = .slice (some ⟨g, off, none⟩) m cap ∧ w2 = wx)
          case first =>
            rcases HM.out with ⟨rfl, rfl, rfl⟩ | ⟨hk, h13, rfl, rfl⟩ | ⟨hk, h13, rfl, rfl⟩
            · go_wp2_with fail
              go_meet
              exact ⟨rfl, rfl⟩
            · clear h13
              go_wp2_with fail
              go_meet
              exact ⟨rfl, rfl⟩
            · clear h13
              obtain ⟨k', rfl⟩ : ∃ k', k = k' + 1 := ⟨k - 1, by omega⟩
              go_wp2_with fail
              go_meet
              exact ⟨rfl, rfl⟩
          case rest =>
            obtain ⟨rfl, rfl⟩ := hcut
            have HML : Hid (m ≤ bs.length) := Nat.le_trans hmi (Nat.le_of_lt hlt)
            clear hcap hmi hklt hlt
            have hYw := blk_lt HY.out.cell
            have c3 : w2.cell? ⟨Y, 3, none⟩ = some (.bool dr) := blk_cell HY2.out.cell
            have f3 : w2.frozen? ⟨Y, 3, none⟩ = false := blk_free HY2.out.cell
            have d0 : w2.cell? ⟨w.heap.size, 0, none⟩ = some (.int .i64 0) := blk_cell HRES2.out
            have d1 : w2.cell? ⟨w.heap.size, 1, none⟩ = some (.slice none 0 0) := blk_cell HRES2.out
            have e0 : w2.frozen? ⟨w.heap.size, 0, none⟩ = false := blk_free HRES2.out
            have e1 : w2.frozen? ⟨w.heap.size, 1, none⟩ = false := blk_free HRES2.out
            have ts := Touch.setCell w2 ⟨Y, 3, none⟩ (.bool false) (M := fun k => k = Y) rfl
            have HT3 : Hid (Touch w (w2.setCell ⟨Y, 3, none⟩ (.bool false)) (fun k => k = Y)) := HT2.out.trans ts (fun _ _ h => h)
            have HRD3 : Hid (Rd (w2.setCell ⟨Y, 3, none⟩ (.bool false)) (some ⟨g, off, none⟩) bs) := HRD2.out.touch ts (fun ⟨ad, had, hm⟩ => by cases had; exact HGY.out hm)
            have HRES3 := Lib.hid (blk_touch HRES2.out ts (by omega))
            have HY3 : Hid (YAt (w2.setCell ⟨Y, 3, none⟩ (.bool false)) Y A2 cap2 (bs.drop (k + 1)) false n false) :=
              ⟨by simpa using blk_set (o := 3) HY2.out.cell (.bool false), fun hl => HY2.out.rd.touch ts (fun ⟨ad, had, hm⟩ => HY2.out.ne ad had (by have := HY2.out.le; omega) hm) hl, HY2.out.le, HY2.out.ne, HY2.out.nil⟩
            clear ts
            cases dr with
            | true =>
              obtain ⟨rfl, rfl⟩ : kind = 2 ∧ data = [] := by
                rcases HCS.out with h | h
                · exact h.2
                · cases h.1
              go_wp2_with fail
              clear c3 f3 d0 d1 e0 e1
              generalize w2.setCell ⟨Y, 3, none⟩ (.bool false) = w4 at *
              have r0 : w4.cell? ⟨w.heap.size, 0, none⟩ = some (.int .i64 0) := blk_cell HRES3.out
              have r1 : w4.cell? ⟨w.heap.size, 1, none⟩ = some (.slice none 0 0) := blk_cell HRES3.out
              refine bodyPost_ret (v := .tuple #[.agg #[.int .i64 2, .slice none 0 0], .bool true]) (by simp [results, Try.results18, go_sem, r0, r1]) rfl ?_
              exact rtold_of hYw rfl HT3.out (Rd.nil _ _) (fun ad h => by cases h) HY3.out (fun ad had hl => (HAB2.out ad had hl).1) (fun ad had hl => ⟨_, rfl, (HAB2.out ad had hl).2.symm⟩) _ _
            | false =>
              by_cases h3 : 300 < m
              · obtain ⟨rfl, rfl⟩ : kind = 2 ∧ data = [] := by
                  rcases HCS.out with h | h
                  · exact h.2
                  · exact absurd h3 h.2.1
                go_wp2_with fail
                clear c3 f3 d0 d1 e0 e1
                generalize w2.setCell ⟨Y, 3, none⟩ (.bool false) = w4 at *
                have r0 : w4.cell? ⟨w.heap.size, 0, none⟩ = some (.int .i64 0) := blk_cell HRES3.out
                have r1 : w4.cell? ⟨w.heap.size, 1, none⟩ = some (.slice none 0 0) := blk_cell HRES3.out
                refine bodyPost_ret (v := .tuple #[.agg #[.int .i64 2, .slice none 0 0], .bool true]) (by simp [results, Try.results18, go_sem, r0, r1]) rfl ?_
                exact rtold_of hYw rfl HT3.out (Rd.nil _ _) (fun ad h => by cases h) HY3.out (fun ad had hl => (HAB2.out ad had hl).1) (fun ad had hl => ⟨_, rfl, (HAB2.out ad had hl).2.symm⟩) _ _
              · obtain ⟨rfl, rfl⟩ : kind = 1 ∧ data = bs.take m := by
                  rcases HCS.out with h | h
                  · rcases h.1 with h | h
                    · cases h
                    · exact absurd h h3
                  · exact h.2.2
                go_upto_region 22 with (fail)
                clear c3 f3 d0 d1 e0 e1 h3
                generalize w2.setCell ⟨Y, 3, none⟩ (.bool false) = w4 at *
                have htl : (bs.take m).length = m := by have := HML.out; simp; omega
                go_wp2_with (at_builtin; refine wpList_append_tl rfl _ _ rfl (some ⟨w4.heap.size, 0, none⟩) 0 [] (bs.take m) _ rfl rfl (tl_lit w4 [] _ rfl) (src_n ((HRD3.out.take m).alloc (.cells #[] 5)) m htl cap) (by rw [htl]; have := HML.out; simp; omega) ?_)
                intro a5 cap5 w5 htl5 ht5 haf5
                have h5 := app1 ht5 haf5
                have hlt4 := blk_lt HRES3.out
                have HR5 := Lib.hid htl5.rd
                have HT5 : Hid (Touch w w5 (fun k => k = Y)) := HT3.out.trans h5.1 (fun i hi h => by omega)
                have HY5 : Hid (YAt w5 Y A2 cap2 (bs.drop (k + 1)) false n false) := HY3.out.touch h5.1 (by omega) (fun ad had hl hM => by
                  obtain ⟨g', off', e, hg', _⟩ := HY3.out.rd hl
                  rw [had] at e; cases e
                  simp only at hM
                  omega)
                have hres := blk_touch HRES3.out h5.1 (by omega)
                have r0 : w5.cell? ⟨w.heap.size, 0, none⟩ = some (.int .i64 0) := blk_cell hres
                have r1 : w5.cell? ⟨w.heap.size, 1, none⟩ = some (.slice none 0 0) := blk_cell hres
                have g0 : w5.frozen? ⟨w.heap.size, 0, none⟩ = false := blk_free hres
                have g1 : w5.frozen? ⟨w.heap.size, 1, none⟩ = false := blk_free hres
                have hres2 := blk_set (o := 1) (blk_set (o := 0) hres (.int .i64 1)) (.slice a5 m cap5)
                have s0 : ((w5.setCell ⟨w.heap.size, 0, none⟩ (.int .i64 1)).setCell ⟨w.heap.size, 1, none⟩ (.slice a5 m cap5)).cell? ⟨w.heap.size, 0, none⟩ = some (.int .i64 1) := by rw [blk_cell hres2]; rfl
                have s1 : ((w5.setCell ⟨w.heap.size, 0, none⟩ (.int .i64 1)).setCell ⟨w.heap.size, 1, none⟩ (.slice a5 m cap5)).cell? ⟨w.heap.size, 1, none⟩ = some (.slice a5 m cap5) := by rw [blk_cell hres2]; rfl
                have S01 := Lib.hid (And.intro s0 s1)
                have HLO : Hid (∀ ad, a5 = some ad → ad.block ≠ w.heap.size) := fun ad had => by have := h5.2 ad had; omega
                clear hres hres2 s0 s1 htl5 ht5 haf5 h5 hlt4
                go_wp2_with fail
                refine bodyPost_ret (v := .tuple #[.agg #[.int .i64 1, .slice a5 m cap5], .bool true]) (by simp [results, Try.results18, go_sem, S01.out.1, S01.out.2]) rfl ?_
                exact rtold_of hYw htl.symm HT5.out HR5.out (fun ad had _ => HLO.out ad had) HY5.out (fun ad had hl => (HAB2.out ad had hl).1) (fun ad had hl => ⟨_, rfl, (HAB2.out ad had hl).2.symm⟩) _ _

/-- The reference's Lines, said as the program's is: want is -1 where no literal is wanted. -/
def YSt (w : World) (Y : Nat) (a : Option Addr) (cap : Nat) (bs : List UInt8) (want : Int) (dr : Bool) : Prop := ∃ n, YAt w Y a cap bs (decide (want ≠ -1)) n dr ∧ (want ≠ -1 → n = want)

/-- What the reference's Next hands back. -/
def RSaid (w : World) (Y : Nat) (a : Option Addr) (kind : Int) (data : List UInt8) (ok : Bool) (bs' : List UInt8) (want' : Int) (dr' : Bool) (e : Ending) (w' : World) : Prop :=
  ∃ r rc a' cap', e = .returned (.tuple #[.agg #[.int .i64 kind, .slice r data.length rc], .bool ok]) ∧ Rd w' r data ∧ YSt w' Y a' cap' bs' want' dr' ∧ Touch w w' (fun k => k = Y) ∧ ∀ ad, a' = some ad → 0 < bs'.length → InA a ad.block

theorem rsaid_of {w : World} {Y : Nat} {a : Option Addr} {kind : Int} {data : List UInt8} {ok : Bool} {bs' : List UInt8} {n' : Int} {want' : Int} {dr' : Bool} (hn : want' ≠ -1 → n' = want') (e : Ending) (w' : World)
    (h : RTold w Y a kind data ok bs' (decide (want' ≠ -1)) n' dr' e w') : RSaid w Y a kind data ok bs' want' dr' e w' := by
  obtain ⟨r, rc, a', cap', he, hr, hy, ht, hin⟩ := h
  exact ⟨r, rc, a', cap', he, hr, ⟨n', hy, hn⟩, ht, hin⟩

theorem rnext_any (Y : Nat) (a : Option Addr) (cap : Nat) (bs : List UInt8) (want : Int) (dr : Bool) (w : World) (hy : YSt w Y a cap bs want dr) (hw : -1 ≤ want) (hb4 : bs.length ≤ 4096) :
    Calls Try.prog 18 #[.pointer (some ⟨Y, 0, none⟩)] w fun e w' => RSaid w Y a (step bs want dr).kind (step bs want dr).data (step bs want dr).ok (step bs want dr).bs (step bs want dr).want (step bs want dr).dr e w' := by
  obtain ⟨n, hy, hn⟩ := hy
  unfold step
  by_cases h0 : want ≠ -1
  · rw [if_pos h0]
    obtain rfl := hn h0
    have hd : decide (n ≠ -1) = true := by simpa using h0
    rw [hd] at hy
    by_cases h1 : (bs.length : Int) < n
    · rw [if_pos h1]
      refine (rnext_short Y a cap bs n dr w hy h1).mono fun e w' h => rsaid_of (n' := n) (fun _ => rfl) e w' ?_
      simpa only [hd] using h
    · rw [if_neg h1]
      obtain ⟨m, rfl⟩ : ∃ m : Nat, n = m := ⟨n.toNat, by omega⟩
      by_cases hc : cap = m
      · have hle := hy.le
        have hm : m = bs.length := by omega
        subst hc
        subst hm
        refine (rnext_full Y a bs dr w hy hb4).mono fun e w' h => rsaid_of (n' := bs.length) (want' := -1) (fun h => absurd rfl h) e w' ?_
        simpa using h
      · refine (rnext_literal Y a cap bs m dr w hy (by omega) hb4 hc).mono fun e w' h => rsaid_of (n' := m) (want' := -1) (fun h => absurd rfl h) e w' ?_
        simpa using h
  · rw [if_neg h0]
    have h0' : want = -1 := by omega
    subst h0'
    have hd : decide ((-1 : Int) ≠ -1) = false := by decide
    rw [hd] at hy
    by_cases h1 : Lib.indexByte bs 10 = -1
    · rw [if_pos h1]
      refine (rnext_waits Y a cap bs n dr w hy h1 hb4 (if 301 < bs.length then [] else bs) (if 301 < bs.length then true else dr) ?_).mono fun e w' h => rsaid_of (n' := n) (fun h => absurd rfl h) e w' ?_
      · by_cases h3 : 301 < bs.length
        · exact .inl ⟨h3, if_pos h3, if_pos h3⟩
        · exact .inr ⟨h3, if_neg h3, if_neg h3⟩
      · simpa only [hd] using h
    · rw [if_neg h1]
      have h2 := Lib.indexByte_ge bs 10
      have h3 := index_lt bs
      obtain ⟨i, hi⟩ : ∃ i : Nat, Lib.indexByte bs 10 = i := ⟨(Lib.indexByte bs 10).toNat, by omega⟩
      have hlt : i < bs.length := by omega
      obtain ⟨m, t, hm, hmi, htr⟩ := trim_at bs i hlt
      obtain ⟨g, off, rfl, _⟩ := hy.rd (by omega)
      have hml : (bs.take m).length = m := by simp; omega
      rw [hi]
      simp only [Int.toNat_natCast, htr, hml]
      refine (rnext_line Y g off cap bs n dr w i m hy hi hlt t hm hmi hb4 (if dr || decide (300 < m) then 2 else 1) (if dr || decide (300 < m) then [] else bs.take m) ?_).mono fun e w' h => rsaid_of (n' := n) (fun h => absurd rfl h) e w' ?_
      · by_cases h4 : (dr || decide (300 < m)) = true
        · rw [if_pos h4, if_pos h4]
          refine .inl ⟨?_, rfl, rfl⟩
          simpa using h4
        · rw [if_neg h4, if_neg h4]
          refine .inr ⟨?_, ?_, rfl, rfl⟩
          · cases dr
            · rfl
            · simp at h4
          · intro h5
            exact h4 (by simp [h5])
      · simpa only [hd] using h

end Go.Proofs.Ytobafefpkkahjaa

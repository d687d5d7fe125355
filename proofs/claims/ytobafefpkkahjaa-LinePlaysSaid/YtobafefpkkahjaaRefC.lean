/- The reference's Next where no literal is wanted: no line's end waits; a line's end waits. -/
import Derived.Test.YtobafefpkkahjaaRefB
namespace Go.Proofs.Ytobafefpkkahjaa
open Go.RowKit

/-! ### Where the first line's end is -/
theorem index_none (bs : List UInt8) (h : Lib.indexByte bs 10 = -1) : ∀ j, j < bs.length → (N8 bs).getD j 0 ≠ 10 := by
  induction bs with
  | nil => intro j hj; simp at hj
  | cons b l ih =>
    unfold Lib.indexByte at h
    by_cases hb : (b == 10) = true
    · simp [hb] at h
    · have hb' : (b == 10) = false := by simpa using hb
      have hl : Lib.indexByte l 10 = -1 := by
        simp only [hb', Bool.false_eq_true, if_false] at h
        by_cases hz : Lib.indexByte l 10 = -1
        · exact hz
        · have hz' : (Lib.indexByte l 10 == -1) = false := by simpa using hz
          simp [hz'] at h
          have := Lib.indexByte_ge l 10
          omega
      intro j hj
      cases j with
      | zero =>
        rw [N8_get]
        intro e
        apply hb
        simp at e ⊢
        exact UInt8.toNat_inj.1 (by rw [show (10 : UInt8).toNat = 10 from rfl]; omega)
      | succ j =>
        have := ih hl j (by simpa using hj)
        simpa [N8] using this

theorem index_some (bs : List UInt8) : ∀ (i : Nat), Lib.indexByte bs 10 = (i : Int) → (∀ j, j < i → (N8 bs).getD j 0 ≠ 10) ∧ (N8 bs).getD i 0 = 10 := by
  induction bs with
  | nil => intro i h; simp [Lib.indexByte] at h
  | cons b l ih =>
    intro i h
    unfold Lib.indexByte at h
    by_cases hb : (b == 10) = true
    · simp only [hb, if_true] at h
      obtain rfl : i = 0 := by omega
      refine ⟨fun j hj => absurd hj (by omega), ?_⟩
      have : b = 10 := by simpa using hb
      subst this
      rfl
    · have hb' : (b == 10) = false := by simpa using hb
      simp only [hb', Bool.false_eq_true, if_false] at h
      by_cases hz : Lib.indexByte l 10 = -1
      · simp [hz] at h
      · have hz' : (Lib.indexByte l 10 == -1) = false := by simpa using hz
        simp only [hz', Bool.false_eq_true, if_false] at h
        have hge := Lib.indexByte_ge l 10
        obtain ⟨i', rfl⟩ : ∃ i', i = i' + 1 := ⟨i - 1, by omega⟩
        obtain ⟨h1, h2⟩ := ih i' (by omega)
        refine ⟨fun j hj => ?_, by simpa [N8] using h2⟩
        cases j with
        | zero =>
          rw [N8_get]
          intro e
          apply hb
          simp at e ⊢
          exact UInt8.toNat_inj.1 (by rw [show (10 : UInt8).toNat = 10 from rfl]; omega)
        | succ j =>
          have := h1 j (by omega)
          simpa [N8] using this

/-! ### No line's end -/
set_option maxRecDepth 10000 in
set_option maxHeartbeats 1600000 in
theorem rnext_waits (Y : Nat) (a : Option Addr) (cap : Nat) (bs : List UInt8) (n : Int) (dr : Bool) (w : World) (hy : YAt w Y a cap bs false n dr) (hi : Lib.indexByte bs 10 = -1) (hb4 : bs.length ≤ 4096) (bs' : List UInt8) (dr' : Bool)
    (hcase : (301 < bs.length ∧ bs' = [] ∧ dr' = true) ∨ (¬ 301 < bs.length ∧ bs' = bs ∧ dr' = dr)) :
    Calls Try.prog 18 #[.pointer (some ⟨Y, 0, none⟩)] w fun e w' => RTold w Y a 0 [] false bs' false n dr' e w' := by
  have hb := blk_alloc (o := .cells #[.int .i64 0, .slice none 0 0] 30) hy.cell
  have c0 : (w.alloc (.cells #[.int .i64 0, .slice none 0 0] 30)).cell? ⟨Y, 0, none⟩ = some (.slice a bs.length cap) := blk_cell hb
  have c1 : (w.alloc (.cells #[.int .i64 0, .slice none 0 0] 30)).cell? ⟨Y, 1, none⟩ = some (.bool false) := blk_cell hb
  have hrd : Rd (w.alloc (.cells #[.int .i64 0, .slice none 0 0] 30)) a bs := hy.rd.alloc _
  have HN := Lib.hid (index_none bs hi)
  have HY := Lib.hid hy
  have HBK := Lib.hid hb
  have HRD := Lib.hid hrd
  have HCS := Lib.hid hcase
  clear hy hb hi hrd hcase
  go_enter Try.func18, Try.ntmps18
  go_wp2_with fail
  go_loopw [5] (fun i wr => ∃ k : Nat, k ≤ bs.length ∧ i = .int .i64 k ∧ wr = w.alloc (.cells #[.int .i64 0, .slice none 0 0] 30)) (fun i _ => bs.length - (intOf i).toNat)
  case atStart => exact ⟨0, Nat.zero_le _, rfl, rfl⟩
  case round =>
    obtain ⟨k, hk, rfl, rfl⟩ := hrel
    by_cases hlt : k < bs.length
    · obtain ⟨g, off, rfl, _, hc⟩ := HRD.out (by omega)
      have hcell := hc k (by omega)
      have haddr := addr_add g off k
      have hne := HN.out k hlt
      clear hc
      generalize (N8 bs).getD k 0 = c at hcell hne
      have b1 : (c != 10) = true := by simpa using hne
      clear hne
      go_wp2
      go_round
      case rel => exact ⟨k + 1, by omega, by go_num, trivial⟩
      case measure => simp [intOf]; omega
    · obtain rfl : k = bs.length := by omega
      clear hlt hk
      have hYw := blk_lt HY.out.cell
      have ht0 : Touch w (w.alloc (.cells #[.int .i64 0, .slice none 0 0] 30)) (fun _ => False) := Touch.alloc w _ _
      have HYW := Lib.hid hYw
      have HT0 := Lib.hid ht0
      have HAB : Hid (∀ ad, a = some ad → 0 < bs.length → ad.block ≠ w.heap.size) := fun ad had hl => by
        obtain ⟨g, off, e, hg, _⟩ := HY.out.rd hl
        rw [had] at e; cases e; exact Nat.ne_of_lt hg
      clear ht0
      by_cases h301 : 301 < bs.length
      · have f0 : w.frozen? ⟨Y, 0, none⟩ = false := blk_free HY.out.cell
        have f3 : w.frozen? ⟨Y, 3, none⟩ = false := blk_free HY.out.cell
        have c3 : w.cell? ⟨Y, 3, none⟩ = some (.bool dr) := blk_cell HY.out.cell
        have c0w : w.cell? ⟨Y, 0, none⟩ = some (.slice a bs.length cap) := blk_cell HY.out.cell
        go_wp2
        clear f0 f3 c3 c0w c0 c1 hb4 hYw
        refine bodyPost_ret (v := .tuple #[.agg #[.int .i64 0, .slice none 0 0], .bool false]) (by simp [results, Try.results18, go_sem]) rfl ?_
        obtain ⟨rfl, rfl⟩ : bs' = [] ∧ dr' = true := by
          rcases HCS.out with h | h
          · exact h.2
          · exact absurd h301 h.1
        have b1 := blk_set (o := 3) (blk_set (o := 0) HY.out.cell (.slice none 0 0)) (.bool true)
        have t1 := (Touch.setCell w ⟨Y, 0, none⟩ (.slice none 0 0) (M := fun k => k = Y) rfl).trans (Touch.setCell _ ⟨Y, 3, none⟩ (.bool true) (M := fun k => k = Y) rfl) (fun _ _ h => h)
        have y1 : YAt ((w.setCell ⟨Y, 0, none⟩ (.slice none 0 0)).setCell ⟨Y, 3, none⟩ (.bool true)) Y none 0 [] false n true := ⟨by simpa using b1, Rd.nil _ _, by simp, (fun ad h => by cases h), fun _ => rfl⟩
        exact ⟨none, 0, none, 0, rfl, Rd.nil _ _, y1.touch (Touch.alloc _ _ (fun _ => False)) (fun h => h) (fun _ _ _ h => h), t1.trans (Touch.alloc _ _ (fun k => k = Y)) (fun _ _ h => h), fun ad h => by cases h⟩
      · go_wp2
        refine bodyPost_ret (v := .tuple #[.agg #[.int .i64 0, .slice none 0 0], .bool false]) (by simp [results, Try.results18, go_sem]) rfl ?_
        obtain ⟨rfl, rfl⟩ : bs' = bs ∧ dr' = dr := by
          rcases HCS.out with h | h
          · exact absurd h.1 h301
          · exact h.2
        exact ⟨none, 0, a, cap, rfl, Rd.nil _ _, HY.out.touch HT0.out (fun h => h) (fun _ _ _ h => h), HT0.out.weaken (fun _ _ h => h.elim), fun ad had _ => ⟨ad, had, rfl⟩⟩

end Go.Proofs.Ytobafefpkkahjaa

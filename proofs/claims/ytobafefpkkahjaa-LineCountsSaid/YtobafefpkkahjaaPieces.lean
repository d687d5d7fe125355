/- LinePieces: the walk. -/
import Derived.Test.YtobafefpkkahjaaLongB
import Derived.Test.YtobafefpkkahjaaPlan
namespace Go.Proofs.Ytobafefpkkahjaa
open Go.RowKit

/-- Bytes from block lo on. -/
def Kr (w : World) (lo : Nat) (r : Option Addr) (d : List UInt8) : Prop :=
  0 < d.length → ∃ g off, r = some ⟨g, off, none⟩ ∧ lo ≤ g ∧ g < w.heap.size ∧ ∀ j, j < d.length → w.cell? ⟨g, off + j, none⟩ = some (.int .u8 ((N8 d).getD j 0))
theorem Kr.rd {w : World} {lo : Nat} {r : Option Addr} {d : List UInt8} (h : Kr w lo r d) : Rd w r d := fun hl => by
  obtain ⟨g, off, e, _, hg, hc⟩ := h hl
  exact ⟨g, off, e, hg, hc⟩

/-- A row of events from block lo on. -/
def Rows2 (w : World) (lo : Nat) (ar : Option Addr) (evs : List (Int × List UInt8)) : Prop :=
  0 < evs.length → ∃ g off, ar = some ⟨g, off, none⟩ ∧ lo ≤ g ∧ g < w.heap.size ∧ ∀ j e, evs[j]? = some e → ∃ r rc, w.cell? ⟨g, off + j * 2, none⟩ = some (.int .i64 e.1) ∧ w.cell? ⟨g, off + j * 2 + 1, none⟩ = some (.slice r e.2.length rc) ∧ Kr w lo r e.2

theorem Rows2.touch {w w' : World} {lo : Nat} {ar : Option Addr} {evs : List (Int × List UInt8)} {M : Nat → Prop} (h : Rows2 w lo ar evs) (ht : Touch w w' M) (hM : ∀ k, lo ≤ k → ¬ M k) : Rows2 w' lo ar evs := fun hl => by
  obtain ⟨g, off, e, hlo, hg, hc⟩ := h hl
  refine ⟨g, off, e, hlo, Nat.lt_of_lt_of_le hg ht.size, fun j ev hj => ?_⟩
  obtain ⟨r, rc, h1, h2, h3⟩ := hc j ev hj
  refine ⟨r, rc, (ht.cell (a := ⟨g, off + j * 2, none⟩) hg (hM g hlo)).trans h1, (ht.cell (a := ⟨g, off + j * 2 + 1, none⟩) hg (hM g hlo)).trans h2, fun hd => ?_⟩
  obtain ⟨g', off', e', hlo', hg', hc'⟩ := h3 hd
  exact ⟨g', off', e', hlo', Nat.lt_of_lt_of_le hg' ht.size, fun j hj => (ht.cell (a := ⟨g', off' + j, none⟩) hg' (hM g' hlo')).trans (hc' j hj)⟩

theorem Al.rows {w1 w : World} {L : Nat} {a : Option Addr} {cap : Nat} {bs : List UInt8} {d : Bool} {ar : Option Addr} {n rcap : Nat} {cs : List Value} {evs : List (Int × List UInt8)}
    (h : Al w1 w L a cap bs d ar n rcap cs evs) (lo : Nat) (hlo : lo ≤ w1.heap.size) : Rows2 w lo ar evs := fun hl => by
  obtain ⟨g, off, rfl⟩ := h.some_ (by rw [← h.num]; exact hl)
  refine ⟨g, off, rfl, Nat.le_trans hlo (h.rowlo _ rfl).1, h.row.lt _ rfl, fun j e hj => ?_⟩
  obtain ⟨r, rc, h1, h2, h3⟩ := h.ev j e hj
  obtain ⟨g', off', e', _, hc, _⟩ := h.row.at_ _ rfl
  cases e'
  refine ⟨r, rc, by rw [Nat.mul_comm]; exact hc _ _ h1, by rw [Nat.mul_comm, Nat.add_assoc]; exact hc _ _ h2, fun hd => ?_⟩
  obtain ⟨g, off, e, hl2, hg, _, _, hc⟩ := h3 hd
  exact ⟨g, off, e, Nat.le_trans hlo hl2, hg, hc⟩

theorem E_len : ∀ (bs cur : List UInt8), (E cur bs).length ≤ bs.length
  | [], _ => by simp [E]
  | b :: l, cur => by
    unfold E
    split
    · have := E_len l []
      simp only [List.length_cons]; omega
    · have := E_len l (cur ++ [b])
      simp only [List.length_cons]; omega

theorem pieces_big (b : Option Addr) (n bcap : Nat) (c : Option Addr) (m ccap : Nat) (w : World) (h : 4096 < n ∨ 200 < m) (hn : n ≤ 9223372036854775807) (hm : m ≤ 9223372036854775807) :
    Calls Try.prog 3 #[.slice b n bcap, .slice c m ccap] w fun e w' => e = .returned (.bool true) ∧ Below w.heap.size w w' := by
  by_cases h1 : 4096 < n
  · clear h
    go_enter Try.func3, Try.ntmps3
    go_wp2
    go_ret
    exact ⟨rfl, Below.refl _ _⟩
  · have h2 : 200 < m := by omega
    clear h
    go_enter Try.func3, Try.ntmps3
    go_wp2
    go_ret
    exact ⟨rfl, Below.refl _ _⟩

/-- What holds at every operation of the drawn region. -/
def SP (w : World) (lo : Nat) (ar br : Option Addr) (evs : List (Int × List UInt8)) (g1 o1 g2 o2 : Nat) (kd : Int) (n : Nat) (dt : List UInt8) (r1 r2 : Option Addr) (c1 c2 : Nat) (wS : World) : Prop :=
  wS.cell? ⟨g1, o1, none⟩ = some (.int .i64 kd) ∧ wS.cell? ⟨g1, o1 + 1, none⟩ = some (.slice r1 n c1) ∧ wS.cell? ⟨g2, o2, none⟩ = some (.int .i64 kd) ∧ wS.cell? ⟨g2, o2 + 1, none⟩ = some (.slice r2 n c2) ∧
  Hid (g1 < wS.heap.size ∧ g2 < wS.heap.size ∧ Rd wS r1 dt ∧ Rd wS r2 dt ∧ Rows2 wS lo ar evs ∧ Rows2 wS lo br evs ∧ Below w.heap.size w wS)

theorem SP.next {w : World} {lo : Nat} {ar br : Option Addr} {evs : List (Int × List UInt8)} {g1 o1 g2 o2 : Nat} {kd : Int} {n : Nat} {dt : List UInt8} {r1 r2 : Option Addr} {c1 c2 : Nat} {wS w' : World}
    (h : SP w lo ar br evs g1 o1 g2 o2 kd n dt r1 r2 c1 c2 wS) (hb : Below wS.heap.size wS w') : SP w lo ar br evs g1 o1 g2 o2 kd n dt r1 r2 c1 c2 w' := by
  obtain ⟨h1, h2, h3, h4, hg1, hg2, hr1, hr2, hp, hq, hB⟩ := h
  have ht : Touch wS w' (fun _ => False) := Touch.grows hb _
  exact ⟨(hb.cell (p := ⟨g1, o1, none⟩) hg1).trans h1, (hb.cell (p := ⟨g1, o1 + 1, none⟩) hg1).trans h2, (hb.cell (p := ⟨g2, o2, none⟩) hg2).trans h3, (hb.cell (p := ⟨g2, o2 + 1, none⟩) hg2).trans h4,
    Nat.lt_of_lt_of_le hg1 hb.size, Nat.lt_of_lt_of_le hg2 hb.size, hr1.touch ht (fun ⟨_, _, h⟩ => h), hr2.touch ht (fun ⟨_, _, h⟩ => h), hp.touch ht (fun _ _ h => h), hq.touch ht (fun _ _ h => h), hB.trans (hb.mono hB.size)⟩

set_option maxHeartbeats 1600000 in
theorem pieces_in (b : Option Addr) (bcap : Nat) (bb : List UInt8) (c : Option Addr) (clen ccap : Nat) (w : World) (hb : Rd w b bb) (hbc : bb.length ≤ bcap) (h1 : bb.length ≤ 4096) (hc : Rc w c clen) (h2 : clen ≤ 200) :
    Calls Try.prog 3 #[.slice b bb.length bcap, .slice c clen ccap] w fun e w' => e = .returned (.bool true) ∧ Below w.heap.size w w' := by
  have HB := Lib.hid hb
  have HC := Lib.hid hc
  clear hb hc
  go_enter Try.func3, Try.ntmps3
  go_wp2_with fail
  refine (new_any _).mono ?_
  rintro e w2 ⟨rfl, hw2⟩
  have h2' := Own.new w _ (Below.refl _ _)
  rw [hw2] at h2'
  have hs2 : w2.heap.size = w.heap.size + 1 := by rw [← hw2]; simp
  have H2 := Lib.hid h2'
  have HS2 := Lib.hid hs2
  clear h2' hw2 hs2
  go_wp2_with fail
  refine (new_any _).mono ?_
  rintro e w3 ⟨rfl, hw3⟩
  have h3 := H2.out.alloc (.cells #[.slice none 0 0, .int .i64 (-1), .bool false] 54)
  have hy3 := Own.new w _ H2.out.bel
  rw [hw3] at h3 hy3
  have hs3 : w3.heap.size = w.heap.size + 2 := by rw [← hw3]; simp [HS2.out]
  have H3 := Lib.hid h3
  have HY3 := Lib.hid hy3
  have HS3 := Lib.hid hs3
  clear hw3 h3 hy3 hs3 H2
  go_wp2_with fail
  have RB3 : Hid (Rd w3 b bb) := H3.out.rd HB.out
  have hblk : ∀ ad, b = some ad → 0 < bb.length → ad.block < w.heap.size := fun ad had hl => by
    obtain ⟨g, off, e, hg, _⟩ := HB.out hl
    rw [had] at e; cases e; exact hg
  have HBLK := Lib.hid hblk
  clear hblk
  refine (all_any w.heap.size w3 H3.out.x b bcap bb RB3.out (fun ad had hl => Nat.ne_of_lt (HBLK.out ad had hl)) hbc h1 none 0 0 (fun h => absurd h (by decide)) (fun _ h => by cases h) (by decide)).mono ?_
  rintro e w4 ⟨a4, cap4, bs4, d4, ar, nn, rcap, cs, rfl, hAl⟩
  have hn4 := hAl.num
  subst hn4
  have HP4 : Hid (Rows2 w4 (w.heap.size + 2) ar (E [] bb)) := hAl.rows _ (Nat.le_of_eq HS3.out.symm)
  have HBel4 : Hid (Below w.heap.size w w4) := Al.below H3.out hAl
  have hlne : w.heap.size ≠ w2.heap.size := by rw [HS2.out]; omega
  have HY4 : Hid (Own w w4 w2.heap.size none 0 [] (-1) false) := ⟨HY3.out.x.touch hAl.t (fun k hf e => by
    rcases hf with h | ⟨ad, h, _⟩
    · exact hlne (e ▸ h)
    · cases h), HBel4.out, HY3.out.lo, HY3.out.lo'⟩
  have RB4 : Hid (Rd w4 b bb) := HY4.out.rd HB.out
  clear hAl hlne HY3 H3 RB3
  go_wp2_with fail
  have hcb : ∀ ad, c = some ad → 0 < clen → ad.block < w.heap.size := fun ad had hl => by
    obtain ⟨g, off, e, hg, _⟩ := HC.out hl
    rw [had] at e; cases e; exact hg
  have hrc : Rc w4 c clen := HC.out.touch (Touch.of_below (M := fun k => w.heap.size ≤ k) HBel4.out (fun _ _ h => h)) (fun ad had hl h => by have := hcb ad had hl; omega)
  refine (all_any w2.heap.size w4 HY4.out.x b bcap bb RB4.out (fun ad had hl => by have := HBLK.out ad had hl; have := HS2.out; omega) hbc h1 c clen ccap hrc (fun ad had hl => by have := hcb ad had hl; have := HS2.out; omega) h2).mono ?_
  clear hcb hrc
  rintro e w5 ⟨a5, cap5, bs5, d5, br, nn, rcap5, cs5, rfl, hAl⟩
  have hn5 := hAl.num
  subst hn5
  have HQ5 : Hid (Rows2 w5 (w.heap.size + 2) br (E [] bb)) := hAl.rows _ (by have := HS3.out; have := HBel4.out.size; have := blk_lt HY4.out.x.cell; have := HS2.out; omega)
  have HBel5 : Hid (Below w.heap.size w w5) := Al.below HY4.out hAl
  have HP5 : Hid (Rows2 w5 (w.heap.size + 2) ar (E [] bb)) := HP4.out.touch hAl.t (fun k hk e => by have := HS2.out; omega)
  have hElen : (E [] bb).length ≤ 9223372036854775806 := by
    have h := E_len bb []
    omega
  clear hAl HY4 RB4 HP4 HBel4
  generalize E [] bb = evs at *
  go_wp2_with fail
  go_loopw [9] (fun i wr => ∃ k : Nat, k ≤ evs.length ∧ i = .int .i64 k ∧ Hid (Rows2 wr (w.heap.size + 2) ar evs ∧ Rows2 wr (w.heap.size + 2) br evs ∧ Below w.heap.size w wr)) (fun i _ => evs.length - (intOf i).toNat)
  case atStart => exact ⟨0, Nat.zero_le _, rfl, HP5.out, HQ5.out, HBel5.out⟩
  case round =>
    obtain ⟨k, hk, rfl, hI⟩ := hrel
    clear HP5 HQ5 HBel5
    by_cases hlt : k < evs.length
    · obtain ⟨g1, o1, rfl, hlo1, hg1, hc1⟩ := hI.out.1 (by omega)
      obtain ⟨g2, o2, rfl, hlo2, hg2, hc2⟩ := hI.out.2.1 (by omega)
      obtain ⟨⟨kd, dt⟩, hev⟩ : ∃ e, evs[k]? = some e := ⟨_, List.getElem?_eq_getElem hlt⟩
      obtain ⟨r1, rc1, p1, p2, p3⟩ := hc1 k _ hev
      obtain ⟨r2, rc2, q1, q2, q3⟩ := hc2 k _ hev
      have hS : SP w (w.heap.size + 2) (some ⟨g1, o1, none⟩) (some ⟨g2, o2, none⟩) evs g1 (o1 + k * 2) g2 (o2 + k * 2) kd dt.length dt r1 r2 rc1 rc2 wr :=
        ⟨p1, p2, q1, q2, hg1, hg2, p3.rd, q3.rd, hI.out⟩
      have HS0 := Lib.hid (hS.next ((Below.refl _ _).drew))
      have ad1 := addr_add g1 o1 (k * 2)
      have ad2 := addr_add g2 o2 (k * 2)
      clear hc1 hc2 hev p1 p2 p3 q1 q2 q3 hI hS hg1 hg2 hlo1 hlo2
      go_wp2_with fail
      refine wp_region_plan 0 (SP w (w.heap.size + 2) (some ⟨g1, o1, none⟩) (some ⟨g2, o2, none⟩) evs g1 (o1 + k * 2) g2 (o2 + k * 2) kd dt.length dt r1 r2 rc1 rc2) (by kernel_rfl) (by kernel_rfl) (by kernel_rfl) HS0.out ?_
      clear HS0
      iterate 8 (refine PlanT.take (v := ?_) (by kernel_rfl) (Steady.still (by rfl) ?_) ?_; rotate_left; (focus (rintro wS ⟨c0, c1, c2, c3, -⟩; go_simp; try (with_reducible rfl))); simp only [Act.put, List.setIfInBounds_toArray, List.set_cons_zero, List.set_cons_succ])
      (refine PlanT.take (v := .bool true) (by kernel_rfl) (Steady.calls (f := 12) (args := #[.agg #[.int .i64 kd, .slice r1 dt.length rc1], .agg #[.int .i64 kd, .slice r2 dt.length rc2]]) (by rfl) ?_) ?_)
      focus
        intro wS hS
        refine ⟨by go_simp, (same_true kd r1 r2 rc1 rc2 dt wS hS.2.2.2.2.out.2.2.1 hS.2.2.2.2.out.2.2.2.1).mono ?_⟩
        rintro e w' ⟨rfl, hb⟩
        exact ⟨rfl, hS.next hb⟩
      simp only [Act.put, List.setIfInBounds_toArray, List.set_cons_zero, List.set_cons_succ]
      (refine PlanT.take (v := ?_) (by kernel_rfl) (Steady.still (by rfl) ?_) ?_; rotate_left; (focus (rintro wS ⟨c0, c1, c2, c3, -⟩; go_simp; try (with_reducible rfl))); simp only [Act.put, List.setIfInBounds_toArray, List.set_cons_zero, List.set_cons_succ])
      refine PlanT.done (by kernel_rfl) ?_
      intro wS hS
      have HR : Hid (Rows2 wS (w.heap.size + 2) (some ⟨g1, o1, none⟩) evs ∧ Rows2 wS (w.heap.size + 2) (some ⟨g2, o2, none⟩) evs ∧ Below w.heap.size w wS) := hS.2.2.2.2.out.2.2.2.2
      clear hS
      go_wp2_with fail
      go_roundw
      case rel => exact ⟨k + 1, by omega, by go_num, HR.out⟩
      case measure => simp [intOf]; omega
    · obtain rfl : k = evs.length := by omega
      have HBW := Lib.hid hI.out.2.2
      clear hI
      go_wp2_with fail
      refine (known_any _).mono ?_
      rintro e w20 ⟨rfl, hb20⟩
      go_wp2_with fail
      go_ret
      exact ⟨rfl, HBW.out.trans (hb20.mono HBW.out.size)⟩

theorem pieces_walk (b : Option Addr) (n bcap : Nat) (bb : List UInt8) (hn : bb.length = n) (c : Option Addr) (clen ccap : Nat) (w : World) (hb : Rd w b bb) (hbc : n ≤ bcap) (hc : Rc w c clen) (hl : n ≤ 9223372036854775807) (hm : clen ≤ 9223372036854775807) :
    Calls Try.prog 3 #[.slice b n bcap, .slice c clen ccap] w fun e w' => e = .returned (.bool true) ∧ Below w.heap.size w w' := by
  subst hn
  by_cases h : 4096 < bb.length ∨ 200 < clen
  · exact pieces_big b _ bcap c clen ccap w h hl hm
  · exact pieces_in b bcap bb c clen ccap w hb hbc (by omega) hc (by omega)

end Go.Proofs.Ytobafefpkkahjaa

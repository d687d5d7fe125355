/- LineCounts: the walk (printed by gen_counts.py). -/
import Derived.Test.YtobafefpkkahjaaPieces
import Derived.Deep.QuietTactic
import Derived.BigQuiet
namespace Go.Proofs.Ytobafefpkkahjaa
open Go.RowKit

theorem counts_big (b : Option Addr) (n bcap : Nat) (w : World) (h : 4096 < n) (hn : n ≤ 9223372036854775807) :
    Calls Try.prog 5 #[.slice b n bcap] w fun e w' => e = .returned (.bool true) ∧ Below w.heap.size w w' := by
  go_enter Try.func5, Try.ntmps5
  go_wp2
  go_ret
  exact ⟨rfl, Below.refl _ _⟩

/-- The bytes from f on, q of them. -/
def cut (bb : List UInt8) (f q : Nat) : List UInt8 := (bb.drop f).take q
theorem cut_len (bb : List UInt8) (f q : Nat) (h : f + q ≤ bb.length) : (cut bb f q).length = q := by simp [cut]; omega
theorem cut_get (bb : List UInt8) (f q j : Nat) (h : j < q) : (N8 (cut bb f q)).getD j 0 = (N8 bb).getD (f + j) 0 := by
  rw [cut, N8_getD_take _ _ _ h, N8_getD_drop]
theorem cut_more (bb : List UInt8) (f q : Nat) (h : f + q < bb.length) : cut bb f (q + 1) = cut bb f q ++ [bb[f + q]] := by
  unfold cut
  rw [List.take_add_one, List.getElem?_drop, List.getElem?_eq_getElem h]
  rfl

theorem getD_at (bb : List UInt8) (k : Nat) (h : k < bb.length) (v : UInt8) : (N8 bb).getD k 0 = (v.toNat : Int) ↔ bb[k] = v := by
  rw [N8_get, List.getD_eq_getElem?_getD, List.getElem?_eq_getElem h]
  simp only [Option.getD_some]
  constructor
  · intro e
    exact UInt8.toNat_inj.1 (by omega)
  · rintro rfl; rfl

theorem trim_last (l : List UInt8) (p : Nat) (hp : l.length = p + 1) : trim13 l = if (N8 l).getD p 0 = 13 then l.take p else l := by
  have hne : l ≠ [] := fun h => by rw [h] at hp; cases hp
  have hl : l = l.take p ++ [l[p]'(by omega)] := by
    have h1 := List.take_append_drop p l
    have h2 : l.drop p = [l[p]'(by omega)] := by
      rw [List.drop_eq_getElem_cons (by omega), List.drop_eq_nil_of_le (by omega)]
    rw [h2] at h1
    exact h1.symm
  by_cases h13 : l[p]'(by omega) = 13
  · rw [if_pos (show (N8 l).getD p 0 = 13 from (getD_at l p (by omega) 13).2 h13)]
    rw [h13] at hl
    conv => lhs; rw [hl]
    exact trim13_end _
  · rw [if_neg (fun h : (N8 l).getD p 0 = 13 => h13 ((getD_at l p (by omega) 13).1 h))]
    unfold trim13
    rw [if_neg]
    intro hs
    unfold Lib.hasSuffix at hs
    have : [13] <:+ l := by simpa using hs
    obtain ⟨t, ht⟩ := this
    have e : l[p]'(by omega) = 13 := by
      have hlen : t.length = p := by have := congrArg List.length ht; simp at this; omega
      have : l[p]? = some 13 := by rw [← ht, ← hlen]; simp
      rw [List.getElem?_eq_getElem (by omega)] at this
      simpa using this
    exact h13 e

theorem E_no (cur l : List UInt8) (b : UInt8) (h : b ≠ 10) : E cur (b :: l) = E (cur ++ [b]) l := by rw [E, if_neg h]
theorem E_yes (cur l : List UInt8) : E cur (10 :: l) = evOf cur :: E [] l := by rw [E, if_pos rfl]

/-- What the loop of LineCounts knows. -/
def Cn (evs : List (Int × List UInt8)) (bb : List UInt8) (m f q : Nat) : Prop := evs.drop m = E (cut bb f q) (bb.drop (f + q))

theorem Cn.start (bb : List UInt8) : Cn (E [] bb) bb 0 0 0 := by simp [Cn, cut]
theorem Cn.no {evs : List (Int × List UInt8)} {bb : List UInt8} {m f q : Nat} (h : Cn evs bb m f q) (hl : f + q < bb.length) (hb : bb[f + q] ≠ 10) : Cn evs bb m f (q + 1) := by
  unfold Cn at *
  rw [h, List.drop_eq_getElem_cons hl, E_no _ _ _ hb, cut_more bb f q hl]
  rfl
theorem Cn.yes {evs : List (Int × List UInt8)} {bb : List UInt8} {m f q : Nat} (h : Cn evs bb m f q) (hl : f + q < bb.length) (hb : bb[f + q] = 10) : evs[m]? = some (evOf (cut bb f q)) ∧ Cn evs bb (m + 1) (f + q + 1) 0 := by
  unfold Cn at *
  rw [List.drop_eq_getElem_cons hl, hb, E_yes] at h
  constructor
  · rw [← List.head?_drop, h]; rfl
  · rw [← List.drop_drop, h]
    simp [cut]
theorem Cn.last {evs : List (Int × List UInt8)} {bb : List UInt8} {m f q : Nat} (h : Cn evs bb m f q) (hl : bb.length ≤ f + q) : evs.length ≤ m := by
  unfold Cn at h
  rw [List.drop_eq_nil_of_le hl] at h
  exact List.drop_eq_nil_iff.1 (by rw [h]; cases cut bb f q <;> rfl)

def SC (w : World) (ar : Option Addr) (evs : List (Int × List UInt8)) (g o : Nat) (kd : Int) (x1 x2 : Value) (str : ByteArray) (wS : World) : Prop :=
  wS.cell? ⟨g, o, none⟩ = some (.int .i64 kd) ∧ wS.cell? ⟨g, o + 1, none⟩ = some x1 ∧ (convert 22 9 x1).run Try.prog wS = .ok (.string str) wS ∧ (convert 22 9 x2).run Try.prog wS = .ok (.string str) wS ∧ Hid (Rows2 wS 0 ar evs ∧ Below w.heap.size w wS)

theorem sc_of {w wr : World} {ar : Option Addr} {evs : List (Int × List UInt8)} {g o : Nat} {kd : Int} {r t : Option Addr} {n rc tc : Nat} {txt : List UInt8} (hn : txt.length = n)
    (h0 : wr.cell? ⟨g, o, none⟩ = some (.int .i64 kd)) (h1 : wr.cell? ⟨g, o + 1, none⟩ = some (.slice r n rc)) (h2 : Rd wr r txt) (h3 : Rd wr t txt) (h4 : Rows2 wr 0 ar evs) (h5 : Below w.heap.size w wr) :
    SC w ar evs g o kd (.slice r n rc) (.slice t n tc) (Str txt) wr.drew := by
  subst hn
  have hd : Touch wr wr.drew (fun _ => False) := Touch.drew _ _
  exact ⟨h0, h1, (h2.touch hd (fun ⟨_, _, h⟩ => h)).convert rc, (h3.touch hd (fun ⟨_, _, h⟩ => h)).convert tc, h4.touch hd (fun _ _ h => h), h5.drew⟩

set_option maxRecDepth 10000 in
set_option maxHeartbeats 3200000 in
theorem counts_in (b : Option Addr) (bcap : Nat) (bb : List UInt8) (w : World) (hb : Rd w b bb) (hbc : bb.length ≤ bcap) (h1 : bb.length ≤ 4096) (hcm : bcap ≤ 9223372036854775807) :
    Calls Try.prog 5 #[.slice b bb.length bcap] w fun e w' => e = .returned (.bool true) ∧ Below w.heap.size w w' := by
  have HB := Lib.hid hb
  clear hb
  go_enter Try.func5, Try.ntmps5
  go_wp2_with fail
  refine (new_any _).mono ?_
  rintro e w2 ⟨rfl, hw2⟩
  have h2' := Own.new w _ (Below.refl _ _)
  rw [hw2] at h2'
  have H2 := Lib.hid h2'
  have RB2 : Hid (Rd w2 b bb) := h2'.rd HB.out
  clear h2' hw2
  go_wp2_with fail
  refine (all_any w.heap.size w2 H2.out.x b bcap bb RB2.out (fun ad had hl => by
    obtain ⟨g, off, e, hg, _⟩ := HB.out hl
    rw [had] at e; cases e; exact Nat.ne_of_lt hg) hbc h1 none 0 0 (fun h => absurd h (by decide)) (fun _ h => by cases h) (by decide)).mono ?_
  rintro e w4 ⟨a4, cap4, bs4, d4, ar, nn, rcap, cs, rfl, hAl⟩
  have hn4 := hAl.num
  subst hn4
  have HP4 : Hid (Rows2 w4 0 ar (E [] bb)) := hAl.rows _ (Nat.zero_le _)
  have HBel4 : Hid (Below w.heap.size w w4) := Al.below H2.out hAl
  have HC0 : Hid (Cn (E [] bb) bb 0 0 0) := Cn.start bb
  have hElen := E_len bb []
  clear hAl H2 RB2
  generalize E [] bb = evs at *
  go_wp2_with fail
  go_loopw [5, 6, 7] (fun n from_ i wr => ∃ m f q k : Nat, Hid (k = f + q) ∧ k ≤ bb.length ∧ m ≤ evs.length ∧ n = .int .i64 m ∧ from_ = .int .i64 f ∧ i = .int .i64 k ∧ Hid (Rows2 wr 0 ar evs ∧ Below w.heap.size w wr ∧ Cn evs bb m f q)) (fun _ _ i _ => bb.length - (intOf i).toNat)
  case atStart => exact ⟨0, 0, 0, 0, rfl, Nat.zero_le _, Nat.zero_le _, rfl, rfl, rfl, HP4.out, HBel4.out, HC0.out⟩
  case round =>
    obtain ⟨m, f, q, k, HK, hkl, hm, rfl, rfl, rfl, hI⟩ := hrel
    clear HP4 HBel4 HC0
    by_cases hlt : k < bb.length
    · have hlt' : f + q < bb.length := by have := HK.out; omega
      have hfq : f + q ≤ bb.length := Nat.le_of_lt hlt'
      have hrb : Rd wr b bb := HB.out.touch (Touch.of_below (M := fun k => w.heap.size ≤ k) hI.out.2.1 (fun _ _ h => h)) (fun ⟨ad, had, hm⟩ => by
        obtain ⟨g, off, e, hg, _⟩ := HB.out (by omega)
        rw [had] at e; cases e; exact absurd hm (Nat.not_le.2 hg))
      obtain ⟨g, off, rfl, hg, hc⟩ := hrb (by omega)
      have hcell : wr.cell? ⟨g, off + k, none⟩ = some (.int .u8 ((N8 bb).getD k 0)) := hc _ hlt
      have haddr := addr_add g off k
      have hkb : (N8 bb).getD (f + q) 0 = (N8 bb).getD k 0 := by rw [HK.out]
      have HKB := Lib.hid hkb
      clear hkb
      have HRB := Lib.hid hrb
      clear hrb
      by_cases hten : (N8 bb).getD k 0 = 10
      · have hyes := hI.out.2.2.yes hlt' ((getD_at bb _ hlt' 10).1 (HKB.out.trans hten))
        have HN := Lib.hid hyes.2
        have hmlt : m < evs.length := (List.getElem?_eq_some_iff.1 hyes.1).1
        obtain ⟨ge, oe, rfl, hlo, hge, hce⟩ := hI.out.1 (by omega)
        obtain ⟨r, rc, e0, e1, e2⟩ := hce m _ hyes.1
        have HR := Lib.hid hI.out.1
        have HBW := Lib.hid hI.out.2.1
        have hadf := addr_add g off f
        have hade := addr_add ge oe (m * 2)
        have hrt : Rd wr (some ⟨g, off + f, none⟩) (cut bb f q) := (HRB.out.drop f).take q
        rw [hten] at hcell
        clear hI hce hyes hlo hge hc hten hg
        have hql := cut_len bb f q hfq
        generalize hcut : cut bb f q = cur at *
        have hkf : k - f = q := by have := HK.out; omega
        have hfkI : (f : Int) ≤ (k : Int) := by have := HK.out; omega
        have hkcI : (k : Int) ≤ (bcap : Int) := by omega
        have hfb : ¬ bcap = f := by have := HK.out; omega
        have hfb' : ¬ f = bcap := by have := HK.out; omega
        have hltI : (k : Int) < (bb.length : Int) := by omega
        have hmI : (m : Int) < (evs.length : Int) := by omega
        have hmI' : ((evs.length : Int) ≤ (m : Int)) = False := by simp; omega
        have hq4 : (q : Int) ≤ 4096 := by omega
        have HX : Hid (bb.length ≤ 4096 ∧ evs.length ≤ bb.length ∧ m < evs.length ∧ k < bb.length) := ⟨h1, hElen, hmlt, hlt⟩
        have HRT := Lib.hid hrt
        clear hlt' hfq h1 hElen hm hkl hlt hmlt HKB HRB hcut hrt
        have HQ4 := Lib.hid hq4
        clear hq4
        cases q with
        | zero =>
          have hc0 : cur = [] := List.eq_nil_of_length_eq_zero hql
          have htr : trim13 cur = [] := by rw [hc0]; rfl
          clear hc0 hql
          have htl : ([] : List UInt8).length = 0 := rfl
          have HTX : Hid (Rd wr (some ⟨g, off + f, none⟩) []) := Rd.nil _ _
          go_wp2_with fail
          · have hbig0 : ¬ 300 < 0 := by decide
            have hev : evOf cur = (1, []) := by unfold evOf; rw [htr, if_neg (by rw [htl]; exact hbig0)]
            rw [hev] at e0 e1 e2
            have hbI : decide ((300 : Int) < ((0 : Nat) : Int)) = false := by first | (simp; omega) | simp
            have HS0 : Hid (SC w (some ⟨ge, oe, none⟩) evs ge (oe + m * 2) 1 (.slice r (0) rc) (.slice (some ⟨g, off + f, none⟩) (0) (bcap - f)) (Str []) wr.drew) := sc_of htl e0 (by have h := e1; simp only [htl] at h; exact h) e2.rd HTX.out HR.out HBW.out
            have hse := str_eq []
            clear hev e0 e1 e2  hbig0 HR HBW HTX
            refine wp_region_plan 0 (SC w (some ⟨ge, oe, none⟩) evs ge (oe + m * 2) 1 (.slice r (0) rc) (.slice (some ⟨g, off + f, none⟩) (0) (bcap - f)) (Str [])) (by kernel_rfl) (by kernel_rfl) (by kernel_rfl) HS0.out ?_
            clear HS0
            iterate 35 (first | (refine PlanT.take (v := ?_) (by kernel_rfl) (Steady.still (by rfl) ?_) ?_; rotate_left; (focus (rintro wS ⟨c0, c1, c2, c3, -⟩; go_simp; try (with_reducible rfl))); simp only [Act.put, List.setIfInBounds_toArray, List.set_cons_zero, List.set_cons_succ]) | (refine PlanT.take (v := undef) (by kernel_rfl) (Steady.off (by rfl)) ?_; simp only [Act.put, List.setIfInBounds_toArray, List.set_cons_zero, List.set_cons_succ]))
            refine PlanT.done (by kernel_rfl) ?_
            intro wS hS
            have HR : Hid (Rows2 wS 0 (some ⟨ge, oe, none⟩) evs ∧ Below w.heap.size w wS) := hS.2.2.2.2.out
            have hwm : IntKind.i64.wrap ((m : Int) + 1) = (m : Int) + 1 := IntWalk.i64_in _ (by have := HX.out; omega)
            have hwk : IntKind.i64.wrap ((k : Int) + 1) = (k : Int) + 1 := IntWalk.i64_in _ (by have := HX.out; omega)
            rename (_ : Int) ≤ 4096 => h4
            clear hS h4 hkcI hfkI hltI hmI hmI' hcm hbc hfb hfb' hkf haddr hcell hadf hade
            go_wp2
            refine ⟨⟨m + 1, k + 1, 0, k + 1, rfl, ?_, ?_, by go_num, by go_num, by go_num, HR.out.1, HR.out.2, ?_⟩, ?_⟩
            · have := HX.out; omega
            · have := HX.out; omega
            · have := HN.out; rwa [show f + 0 + 1 = k + 1 by have := HK.out; omega] at this
            · have := HX.out; simp [intOf]; omega
        | succ p =>
          obtain ⟨g', off', heq, _, hcl⟩ := HRT.out (by omega)
          cases heq
          have hlast : wr.cell? ⟨g, off + f + p, none⟩ = some (.int .u8 ((N8 cur).getD p 0)) := hcl p (by omega)
          have hadp := addr_add g (off + f) p
          have htrim := trim_last cur p hql
          have hpc : p ≤ bcap - f := by have := HK.out; have := HX.out; omega
          have hpcI : (p : Int) ≤ ((bcap - f : Nat) : Int) := by omega
          clear hcl
          by_cases h13 : (N8 cur).getD p 0 = 13
          · rw [h13] at hlast
            have htr : trim13 cur = cur.take p := by rw [htrim, if_pos h13]
            have htl : (cur.take p).length = p := by simp; omega
            have HTX : Hid (Rd wr (some ⟨g, off + f, none⟩) (cur.take p)) := HRT.out.take p
            clear h13 htrim hql
            go_wp2_with fail
            clear hlast hadp hpc hpcI
            by_cases hbig : 300 < p
            · have hev : evOf cur = (2, []) := by unfold evOf; rw [htr, if_pos (by rw [htl]; exact hbig)]
              rw [hev] at e0 e1 e2
              have hbI : decide ((300 : Int) < ((p : Nat) : Int)) = true := by first | (simp; omega) | simp
              have HS0 : Hid (SC w (some ⟨ge, oe, none⟩) evs ge (oe + m * 2) 2 (.slice r 0 rc) (.slice r 0 rc) (Str []) wr.drew) := sc_of rfl e0 e1 e2.rd e2.rd HR.out HBW.out
              clear hev e0 e1 e2 hbig HR HBW HTX
              refine wp_region_plan 0 (SC w (some ⟨ge, oe, none⟩) evs ge (oe + m * 2) 2 (.slice r 0 rc) (.slice r 0 rc) (Str [])) (by kernel_rfl) (by kernel_rfl) (by kernel_rfl) HS0.out ?_
              clear HS0
              iterate 35 (first | (refine PlanT.take (v := ?_) (by kernel_rfl) (Steady.still (by rfl) ?_) ?_; rotate_left; (focus (rintro wS ⟨c0, c1, c2, c3, -⟩; go_simp; try (with_reducible rfl))); simp only [Act.put, List.setIfInBounds_toArray, List.set_cons_zero, List.set_cons_succ]) | (refine PlanT.take (v := undef) (by kernel_rfl) (Steady.off (by rfl)) ?_; simp only [Act.put, List.setIfInBounds_toArray, List.set_cons_zero, List.set_cons_succ]))
              refine PlanT.done (by kernel_rfl) ?_
              intro wS hS
              have HR : Hid (Rows2 wS 0 (some ⟨ge, oe, none⟩) evs ∧ Below w.heap.size w wS) := hS.2.2.2.2.out
              have hwm : IntKind.i64.wrap ((m : Int) + 1) = (m : Int) + 1 := IntWalk.i64_in _ (by have := HX.out; omega)
              have hwk : IntKind.i64.wrap ((k : Int) + 1) = (k : Int) + 1 := IntWalk.i64_in _ (by have := HX.out; omega)
              rename (_ : Int) ≤ 4096 => h4
              clear hS h4 hkcI hfkI hltI hmI hmI' hcm hbc hfb hfb' hkf haddr hcell hadf hade
              go_wp2
              refine ⟨⟨m + 1, k + 1, 0, k + 1, rfl, ?_, ?_, by go_num, by go_num, by go_num, HR.out.1, HR.out.2, ?_⟩, ?_⟩
              · have := HX.out; omega
              · have := HX.out; omega
              · have := HN.out; rwa [show f + (p + 1) + 1 = k + 1 by have := HK.out; omega] at this
              · have := HX.out; simp [intOf]; omega
            · have hbig0 : ¬ 300 < p := hbig
              have hev : evOf cur = (1, (cur.take p)) := by unfold evOf; rw [htr, if_neg (by rw [htl]; exact hbig0)]
              rw [hev] at e0 e1 e2
              have hbI : decide ((300 : Int) < ((p : Nat) : Int)) = false := by first | (simp; omega) | simp
              have HS0 : Hid (SC w (some ⟨ge, oe, none⟩) evs ge (oe + m * 2) 1 (.slice r (p) rc) (.slice (some ⟨g, off + f, none⟩) (p) (bcap - f)) (Str (cur.take p)) wr.drew) := sc_of htl e0 (by have h := e1; simp only [htl] at h; exact h) e2.rd HTX.out HR.out HBW.out
              have hse := str_eq (cur.take p)
              clear hev e0 e1 e2 hbig hbig0 HR HBW HTX
              refine wp_region_plan 0 (SC w (some ⟨ge, oe, none⟩) evs ge (oe + m * 2) 1 (.slice r (p) rc) (.slice (some ⟨g, off + f, none⟩) (p) (bcap - f)) (Str (cur.take p))) (by kernel_rfl) (by kernel_rfl) (by kernel_rfl) HS0.out ?_
              clear HS0
              iterate 35 (first | (refine PlanT.take (v := ?_) (by kernel_rfl) (Steady.still (by rfl) ?_) ?_; rotate_left; (focus (rintro wS ⟨c0, c1, c2, c3, -⟩; go_simp; try (with_reducible rfl))); simp only [Act.put, List.setIfInBounds_toArray, List.set_cons_zero, List.set_cons_succ]) | (refine PlanT.take (v := undef) (by kernel_rfl) (Steady.off (by rfl)) ?_; simp only [Act.put, List.setIfInBounds_toArray, List.set_cons_zero, List.set_cons_succ]))
              refine PlanT.done (by kernel_rfl) ?_
              intro wS hS
              have HR : Hid (Rows2 wS 0 (some ⟨ge, oe, none⟩) evs ∧ Below w.heap.size w wS) := hS.2.2.2.2.out
              have hwm : IntKind.i64.wrap ((m : Int) + 1) = (m : Int) + 1 := IntWalk.i64_in _ (by have := HX.out; omega)
              have hwk : IntKind.i64.wrap ((k : Int) + 1) = (k : Int) + 1 := IntWalk.i64_in _ (by have := HX.out; omega)
              rename (_ : Int) ≤ 4096 => h4
              clear hS h4 hkcI hfkI hltI hmI hmI' hcm hbc hfb hfb' hkf haddr hcell hadf hade
              go_wp2
              refine ⟨⟨m + 1, k + 1, 0, k + 1, rfl, ?_, ?_, by go_num, by go_num, by go_num, HR.out.1, HR.out.2, ?_⟩, ?_⟩
              · have := HX.out; omega
              · have := HX.out; omega
              · have := HN.out; rwa [show f + (p + 1) + 1 = k + 1 by have := HK.out; omega] at this
              · have := HX.out; simp [intOf]; omega
          · have htr : trim13 cur = cur := by rw [htrim, if_neg h13]
            have htl : cur.length = p + 1 := hql
            have HTX : Hid (Rd wr (some ⟨g, off + f, none⟩) cur) := HRT.out
            have hne : (((N8 cur).getD p 0) == 13) = false := by simpa using h13
            generalize (N8 cur).getD p 0 = lv at hlast hne
            clear h13 htrim hql
            go_wp2_with fail
            clear hlast hadp hpc hpcI hne
            by_cases hbig : 300 < p + 1
            · have hev : evOf cur = (2, []) := by unfold evOf; rw [htr, if_pos (by rw [htl]; exact hbig)]
              rw [hev] at e0 e1 e2
              have hbI : decide ((300 : Int) < ((p : Int) + 1)) = true := by first | (simp; omega) | simp
              have HS0 : Hid (SC w (some ⟨ge, oe, none⟩) evs ge (oe + m * 2) 2 (.slice r 0 rc) (.slice r 0 rc) (Str []) wr.drew) := sc_of rfl e0 e1 e2.rd e2.rd HR.out HBW.out
              clear hev e0 e1 e2 hbig HR HBW HTX
              refine wp_region_plan 0 (SC w (some ⟨ge, oe, none⟩) evs ge (oe + m * 2) 2 (.slice r 0 rc) (.slice r 0 rc) (Str [])) (by kernel_rfl) (by kernel_rfl) (by kernel_rfl) HS0.out ?_
              clear HS0
              iterate 35 (first | (refine PlanT.take (v := ?_) (by kernel_rfl) (Steady.still (by rfl) ?_) ?_; rotate_left; (focus (rintro wS ⟨c0, c1, c2, c3, -⟩; go_simp; try (with_reducible rfl))); simp only [Act.put, List.setIfInBounds_toArray, List.set_cons_zero, List.set_cons_succ]) | (refine PlanT.take (v := undef) (by kernel_rfl) (Steady.off (by rfl)) ?_; simp only [Act.put, List.setIfInBounds_toArray, List.set_cons_zero, List.set_cons_succ]))
              refine PlanT.done (by kernel_rfl) ?_
              intro wS hS
              have HR : Hid (Rows2 wS 0 (some ⟨ge, oe, none⟩) evs ∧ Below w.heap.size w wS) := hS.2.2.2.2.out
              have hwm : IntKind.i64.wrap ((m : Int) + 1) = (m : Int) + 1 := IntWalk.i64_in _ (by have := HX.out; omega)
              have hwk : IntKind.i64.wrap ((k : Int) + 1) = (k : Int) + 1 := IntWalk.i64_in _ (by have := HX.out; omega)
              rename (_ : Int) ≤ 4096 => h4
              clear hS h4 hkcI hfkI hltI hmI hmI' hcm hbc hfb hfb' hkf haddr hcell hadf hade
              go_wp2
              refine ⟨⟨m + 1, k + 1, 0, k + 1, rfl, ?_, ?_, by go_num, by go_num, by go_num, HR.out.1, HR.out.2, ?_⟩, ?_⟩
              · have := HX.out; omega
              · have := HX.out; omega
              · have := HN.out; rwa [show f + (p + 1) + 1 = k + 1 by have := HK.out; omega] at this
              · have := HX.out; simp [intOf]; omega
            · have hbig0 : ¬ 300 < p + 1 := hbig
              have hev : evOf cur = (1, cur) := by unfold evOf; rw [htr, if_neg (by rw [htl]; exact hbig0)]
              rw [hev] at e0 e1 e2
              have hbI : decide ((300 : Int) < ((p : Int) + 1)) = false := by first | (simp; omega) | simp
              have HS0 : Hid (SC w (some ⟨ge, oe, none⟩) evs ge (oe + m * 2) 1 (.slice r (p + 1) rc) (.slice (some ⟨g, off + f, none⟩) (p + 1) (bcap - f)) (Str cur) wr.drew) := sc_of htl e0 (by have h := e1; simp only [htl] at h; exact h) e2.rd HTX.out HR.out HBW.out
              have hse := str_eq cur
              clear hev e0 e1 e2 hbig hbig0 HR HBW HTX
              refine wp_region_plan 0 (SC w (some ⟨ge, oe, none⟩) evs ge (oe + m * 2) 1 (.slice r (p + 1) rc) (.slice (some ⟨g, off + f, none⟩) (p + 1) (bcap - f)) (Str cur)) (by kernel_rfl) (by kernel_rfl) (by kernel_rfl) HS0.out ?_
              clear HS0
              iterate 35 (first | (refine PlanT.take (v := ?_) (by kernel_rfl) (Steady.still (by rfl) ?_) ?_; rotate_left; (focus (rintro wS ⟨c0, c1, c2, c3, -⟩; go_simp; try (with_reducible rfl))); simp only [Act.put, List.setIfInBounds_toArray, List.set_cons_zero, List.set_cons_succ]) | (refine PlanT.take (v := undef) (by kernel_rfl) (Steady.off (by rfl)) ?_; simp only [Act.put, List.setIfInBounds_toArray, List.set_cons_zero, List.set_cons_succ]))
              refine PlanT.done (by kernel_rfl) ?_
              intro wS hS
              have HR : Hid (Rows2 wS 0 (some ⟨ge, oe, none⟩) evs ∧ Below w.heap.size w wS) := hS.2.2.2.2.out
              have hwm : IntKind.i64.wrap ((m : Int) + 1) = (m : Int) + 1 := IntWalk.i64_in _ (by have := HX.out; omega)
              have hwk : IntKind.i64.wrap ((k : Int) + 1) = (k : Int) + 1 := IntWalk.i64_in _ (by have := HX.out; omega)
              rename (_ : Int) ≤ 4096 => h4
              clear hS h4 hkcI hfkI hltI hmI hmI' hcm hbc hfb hfb' hkf haddr hcell hadf hade
              go_wp2
              refine ⟨⟨m + 1, k + 1, 0, k + 1, rfl, ?_, ?_, by go_num, by go_num, by go_num, HR.out.1, HR.out.2, ?_⟩, ?_⟩
              · have := HX.out; omega
              · have := HX.out; omega
              · have := HN.out; rwa [show f + (p + 1) + 1 = k + 1 by have := HK.out; omega] at this
              · have := HX.out; simp [intOf]; omega
      · have hno : bb[f + q] ≠ 10 := fun h => hten (HKB.out.symm.trans ((getD_at bb _ hlt' 10).2 h))
        have HI : Hid (Rows2 wr 0 ar evs ∧ Below w.heap.size w wr ∧ Cn evs bb m f (q + 1)) := ⟨hI.out.1, hI.out.2.1, hI.out.2.2.no hlt' hno⟩
        have hne : (((N8 bb).getD k 0) == 10) = false := by simpa using hten
        clear HKB
        generalize (N8 bb).getD k 0 = cv at hcell hne
        have hltI : (k : Int) < (bb.length : Int) := by omega
        have HX : Hid (bb.length ≤ 4096 ∧ evs.length ≤ bb.length ∧ m ≤ evs.length ∧ k ≤ bb.length ∧ k < bb.length) := ⟨h1, hElen, hm, hkl, hlt⟩
        clear hI hc hten hno hg HRB hlt' hfq h1 hElen hm hkl hlt
        go_wp2
        refine ⟨⟨m, f, q + 1, k + 1, ?_, ?_, HX.out.2.2.1, rfl, rfl, by go_num, HI.out⟩, ?_⟩
        · have := HK.out; show _ = _; omega
        · have := HX.out; omega
        · have := HX.out; simp [intOf]; omega
    · have hme : m = evs.length := by have := hI.out.2.2.last (by have := HK.out; omega); omega
      subst hme
      obtain rfl : k = bb.length := by omega
      have HBW := Lib.hid hI.out.2.1
      clear hI h1 hElen hm hkl hlt
      rename (_ : Int) ≤ 4096 => h4
      have hll : ((bb.length : Int) < (bb.length : Int)) = False := by simp
      clear h4 hcm hbc HK
      go_wp2_with fail
      refine (known_any _).mono ?_
      rintro e w20 ⟨rfl, hb20⟩
      go_wp2_with fail
      go_ret
      exact ⟨rfl, HBW.out.trans (hb20.mono HBW.out.size)⟩

end Go.Proofs.Ytobafefpkkahjaa

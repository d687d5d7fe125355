/- The state of 'all': the Lines, the row of events, their bytes; what each step of the walk does to it. -/
import Derived.Test.YtobafefpkkahjaaEv
namespace Go.Proofs.Ytobafefpkkahjaa
open Go.RowKit

/-- An event's bytes: of the call's own, outside of the Lines and of the row. -/
def Kp (w1 w : World) (L : Nat) (a ar r : Option Addr) (d : List UInt8) : Prop :=
  0 < d.length → ∃ g off, r = some ⟨g, off, none⟩ ∧ w1.heap.size ≤ g ∧ g < w.heap.size ∧ ¬ Foot L a g ∧ ¬ InA ar g ∧ ∀ j, j < d.length → w.cell? ⟨g, off + j, none⟩ = some (.int .u8 ((N8 d).getD j 0))

structure Al (w1 w : World) (L : Nat) (a : Option Addr) (cap : Nat) (bs : List UInt8) (d : Bool) (ar : Option Addr) (n rcap : Nat) (cs : List Value) (evs : List (Int × List UInt8)) : Prop where
  x : XAt w L a cap bs (-1) d
  t : Touch w1 w (fun k => k = L)
  lt : L < w1.heap.size
  lo : ∀ ad, a = some ad → w1.heap.size ≤ ad.block
  row : Tr w ar n rcap cs
  rowlo : ∀ ad, ar = some ad → w1.heap.size ≤ ad.block ∧ ¬ Foot L a ad.block
  num : evs.length = n
  ev : ∀ j e, evs[j]? = some e → ∃ r rc, cs[2 * j]? = some (.int .i64 e.1) ∧ cs[2 * j + 1]? = some (.slice r e.2.length rc) ∧ Kp w1 w L a ar r e.2

theorem Tr.lt {w : World} {a : Option Addr} {n cap : Nat} {cs : List Value} (h : Tr w a n cap cs) : ∀ ad, a = some ad → ad.block < w.heap.size := fun ad had => by
  obtain ⟨g, off, rfl, hg, _⟩ := h.at_ ad had
  exact hg

theorem Al.start {w : World} {L : Nat} (h : XAt w L none 0 [] (-1) false) : Al w w L none 0 [] false none 0 0 [] [] :=
  ⟨h, Touch.refl _ _, blk_lt h.cell, fun _ h => (by cases h), Tr.nothing _, fun _ h => (by cases h), rfl, fun j e h => (by simp at h)⟩

/-- An operation of the Lines (or new blocks). -/
theorem Al.step {w1 w w' : World} {L : Nat} {a a' : Option Addr} {cap cap' : Nat} {bs bs' : List UInt8} {d d' : Bool} {ar : Option Addr} {n rcap : Nat} {cs : List Value} {evs : List (Int × List UInt8)}
    (h : Al w1 w L a cap bs d ar n rcap cs evs) (hx : XAt w' L a' cap' bs' (-1) d') (ht : Touch w w' (Foot L a)) (haf : After w a a') : Al w1 w' L a' cap' bs' d' ar n rcap cs evs := by
  refine ⟨hx, h.t.trans ht (fun i hi hf => ?_), h.lt, fun ad had => ?_, h.row.touch ht (fun ad had => (h.rowlo ad had).2), fun ad had => ⟨(h.rowlo ad had).1, foot_after haf (h.row.lt ad had) (h.rowlo ad had).2⟩, h.num, fun j e hj => ?_⟩
  · rcases hf with rfl | ⟨ad, had, rfl⟩
    · rfl
    · have := h.lo ad had; omega
  · rcases haf ad had with ⟨bd, hb, e⟩ | h1
    · rw [← e]; exact h.lo bd hb
    · have := h.t.size; omega
  · obtain ⟨r, rc, h1, h2, h3⟩ := h.ev j e hj
    refine ⟨r, rc, h1, h2, fun hl => ?_⟩
    obtain ⟨g, off, e, hlo, hg, hn, hr, hc⟩ := h3 hl
    exact ⟨g, off, e, hlo, Nat.lt_of_lt_of_le hg ht.size, foot_after haf hg hn, hr, fun j hj => (ht.cell (a := ⟨g, off + j, none⟩) hg hn).trans (hc j hj)⟩

theorem Al.alloc {w1 w : World} {L : Nat} {a : Option Addr} {cap : Nat} {bs : List UInt8} {d : Bool} {ar : Option Addr} {n rcap : Nat} {cs : List Value} {evs : List (Int × List UInt8)}
    (h : Al w1 w L a cap bs d ar n rcap cs evs) (o : Obj) : Al w1 (w.alloc o) L a cap bs d ar n rcap cs evs :=
  h.step (h.x.alloc o) (Touch.alloc w o _) (After.same _ _)

/-- What Next told lies where it may. -/
theorem Kp.told {w1 w w' : World} {L : Nat} {a a' : Option Addr} {cap : Nat} {bs : List UInt8} {d : Bool} {ar r : Option Addr} {n rcap : Nat} {cs : List Value} {evs : List (Int × List UInt8)} {data : List UInt8}
    (h : Al w1 w L a cap bs d ar n rcap cs evs) (hr : Rd w' r data) (hra : After w none r) (ha : Within a a') : Kp w1 w' L a' ar r data := fun hl => by
  obtain ⟨g, off, rfl, hg, hn, hc⟩ := Kept.told h.x hr hra ha hl
  have hge : w.heap.size ≤ g := by
    rcases hra _ rfl with ⟨_, h, _⟩ | h
    · cases h
    · exact h
  refine ⟨g, off, rfl, Nat.le_trans h.t.size hge, hg, hn, fun ⟨ad, had, hb⟩ => ?_, hc⟩
  have := h.row.lt ad had
  omega

theorem Kp.alloc {w1 w : World} {L : Nat} {a ar r : Option Addr} {d : List UInt8} (h : Kp w1 w L a ar r d) (o : Obj) : Kp w1 (w.alloc o) L a ar r d := fun hl => by
  obtain ⟨g, off, e, hlo, hg, hn, hr, hc⟩ := h hl
  have ht := Touch.alloc w o (fun _ => False)
  exact ⟨g, off, e, hlo, Nat.lt_of_lt_of_le hg ht.size, hn, hr, fun j hj => (ht.cell (a := ⟨g, off + j, none⟩) hg (fun h => h)).trans (hc j hj)⟩

theorem inA_after {w : World} {a a' : Option Addr} {k : Nat} (haf : After w a a') (hk : k < w.heap.size) (hn : ¬ InA a k) : ¬ InA a' k := by
  rintro ⟨ad, had, hb⟩
  rcases haf ad had with h | h
  · rw [hb] at h; exact hn h
  · omega

/-- An event is laid behind the row. -/
theorem Al.push {w1 w w' : World} {L : Nat} {a : Option Addr} {cap : Nat} {bs : List UInt8} {d : Bool} {ar ar' r : Option Addr} {n rcap rcap' rc : Nat} {cs : List Value} {evs : List (Int × List UInt8)} {kind : Int} {data : List UInt8}
    (h : Al w1 w L a cap bs d ar n rcap cs evs) (hk : Kp w1 w L a ar r data) (hrow : Tr w' ar' (n + 1) rcap' (cs ++ [.int .i64 kind, .slice r data.length rc])) (ht : Touch w w' (InA ar)) (haf : After w ar ar') :
    Al w1 w' L a cap bs d ar' (n + 1) rcap' (cs ++ [.int .i64 kind, .slice r data.length rc]) (evs ++ [(kind, data)]) := by
  have hkp : ∀ (r : Option Addr) (dt : List UInt8), Kp w1 w L a ar r dt → Kp w1 w' L a ar' r dt := fun r dt hk hl => by
    obtain ⟨g, off, e, hlo, hg, hn, hr, hc⟩ := hk hl
    exact ⟨g, off, e, hlo, Nat.lt_of_lt_of_le hg ht.size, hn, inA_after haf hg hr, fun j hj => (ht.cell (a := ⟨g, off + j, none⟩) hg hr).trans (hc j hj)⟩
  have hl := h.row.len
  have hn := h.num
  refine ⟨h.x.touch ht (fun k hf ⟨ad, had, hb⟩ => ?_), h.t.trans ht (fun i hi ⟨ad, had, hb⟩ => ?_), h.lt, h.lo, hrow, fun ad had => ?_, by simp [hn], fun j e hj => ?_⟩
  · rw [← hb] at hf; exact (h.rowlo ad had).2 hf
  · have := (h.rowlo ad had).1; omega
  · rcases haf ad had with ⟨bd, hb, e⟩ | h1
    · rw [← e]; exact h.rowlo bd hb
    · refine ⟨Nat.le_trans h.t.size h1, fun hf => ?_⟩
      have := h.x.inA_lt _ hf
      omega
  · by_cases hlt : j < evs.length
    · rw [List.getElem?_append_left hlt] at hj
      obtain ⟨r, rc, h1, h2, h3⟩ := h.ev j e hj
      exact ⟨r, rc, by rw [List.getElem?_append_left (by omega)]; exact h1, by rw [List.getElem?_append_left (by omega)]; exact h2, hkp r _ h3⟩
    · have hj' : j = evs.length := by
        have := (List.getElem?_eq_some_iff.1 hj).1
        simp at this
        omega
      subst hj'
      rw [List.getElem?_append_right (by omega), Nat.sub_self] at hj
      simp only [List.getElem?_cons_zero, Option.some.injEq] at hj
      subst hj
      refine ⟨r, rc, ?_, ?_, hkp r _ hk⟩
      · rw [List.getElem?_append_right (by omega), show 2 * evs.length - cs.length = 0 by omega]; rfl
      · rw [List.getElem?_append_right (by omega), show 2 * evs.length + 1 - cs.length = 1 by omega]; rfl

theorem Al.rd {w1 w : World} {L : Nat} {a : Option Addr} {cap : Nat} {bs : List UInt8} {d : Bool} {ar : Option Addr} {n rcap : Nat} {cs : List Value} {evs : List (Int × List UInt8)}
    (h : Al w1 w L a cap bs d ar n rcap cs evs) {b : Option Addr} {ys : List UInt8} (hr : Rd w1 b ys) (hn : ∀ ad, b = some ad → 0 < ys.length → ad.block ≠ L) : Rd w b ys := fun hl =>
  hr.touch h.t (fun ⟨ad, had, hm⟩ => hn ad had hl hm) hl

/-- Whole numbers that are read. -/
def Rc (w : World) (c : Option Addr) (n : Nat) : Prop :=
  0 < n → ∃ g off, c = some ⟨g, off, none⟩ ∧ g < w.heap.size ∧ ∀ j, j < n → ∃ v : Int, w.cell? ⟨g, off + j, none⟩ = some (.int .i64 v)
theorem Rc.touch {w w' : World} {c : Option Addr} {n : Nat} {M : Nat → Prop} (h : Rc w c n) (ht : Touch w w' M) (hn : ∀ ad, c = some ad → 0 < n → ¬ M ad.block) : Rc w' c n := fun hl => by
  obtain ⟨g, off, rfl, hg, hc⟩ := h hl
  refine ⟨g, off, rfl, Nat.lt_of_lt_of_le hg ht.size, fun j hj => ?_⟩
  obtain ⟨v, hv⟩ := hc j hj
  exact ⟨v, (ht.cell (a := ⟨g, off + j, none⟩) hg (hn ⟨g, off, none⟩ rfl hl)).trans hv⟩

/-- A piece of what is read. -/
theorem rd_piece {w : World} {b : Option Addr} {bb : List UInt8} (h : Rd w b bb) (at_ n : Nat) (hn : n ≤ bb.length) (bcap : Nat) (hc : bb.length ≤ bcap) :
    Rd w (if bcap = at_ then b else b.map (fun x => x.add at_)) ((bb.drop at_).take (n - at_)) := fun hl => by
  simp only [List.length_take, List.length_drop] at hl
  obtain ⟨g, off, rfl, hg, hcell⟩ := h (by omega)
  rw [if_neg (by omega)]
  refine ⟨g, off + at_, by simp [addr_add], hg, fun j hj => ?_⟩
  simp only [List.length_take, List.length_drop] at hj
  rw [N8_getD_take _ _ _ (by omega), N8_getD_drop, Nat.add_assoc]
  exact hcell _ (by omega)

end Go.Proofs.Ytobafefpkkahjaa

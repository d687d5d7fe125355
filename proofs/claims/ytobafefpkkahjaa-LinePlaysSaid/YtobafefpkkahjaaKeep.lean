/- What lies beside a Lines and stays: slices of bytes, blocks; through its operations and through new blocks. -/
import Derived.Test.YtobafefpkkahjaaOpen
namespace Go.Proofs.Ytobafefpkkahjaa
open Go.RowKit

/-- The slice r reads d, and lies outside of the Lines at L with the buffer a. -/
def Kept (w : World) (L : Nat) (a r : Option Addr) (d : List UInt8) : Prop :=
  0 < d.length → ∃ g off, r = some ⟨g, off, none⟩ ∧ g < w.heap.size ∧ ¬ Foot L a g ∧ ∀ j, j < d.length → w.cell? ⟨g, off + j, none⟩ = some (.int .u8 ((N8 d).getD j 0))

theorem Kept.rd {w : World} {L : Nat} {a r : Option Addr} {d : List UInt8} (h : Kept w L a r d) : Rd w r d := fun hl => by
  obtain ⟨g, off, e, hg, _, hc⟩ := h hl
  exact ⟨g, off, e, hg, hc⟩

theorem Kept.of {w : World} {L : Nat} {a r : Option Addr} {d : List UInt8} (h : Rd w r d) (hn : ∀ ad, r = some ad → ¬ Foot L a ad.block) : Kept w L a r d := fun hl => by
  obtain ⟨g, off, e, hg, hc⟩ := h hl
  exact ⟨g, off, e, hg, hn _ e, hc⟩

theorem Kept.nil (w : World) (L : Nat) (a r : Option Addr) : Kept w L a r [] := fun h => absurd h (by simp)

theorem foot_after {w : World} {L : Nat} {a a' : Option Addr} {k : Nat} (haf : After w a a') (hk : k < w.heap.size) (hn : ¬ Foot L a k) : ¬ Foot L a' k := by
  rintro (h | ⟨ad, had, hb⟩)
  · exact hn (.inl h)
  · rcases haf ad had with h | h
    · rw [hb] at h; exact hn (.inr h)
    · omega

theorem Kept.step {w w' : World} {L : Nat} {a a' r : Option Addr} {d : List UInt8} (h : Kept w L a r d) (ht : Touch w w' (Foot L a)) (haf : After w a a') : Kept w' L a' r d := fun hl => by
  obtain ⟨g, off, e, hg, hn, hc⟩ := h hl
  exact ⟨g, off, e, Nat.lt_of_lt_of_le hg ht.size, foot_after haf hg hn, fun j hj => (ht.cell (a := ⟨g, off + j, none⟩) hg hn).trans (hc j hj)⟩

theorem Kept.touch {w w' : World} {L : Nat} {a r : Option Addr} {d : List UInt8} {M : Nat → Prop} (h : Kept w L a r d) (ht : Touch w w' M) (hM : ∀ ad, r = some ad → ad.block < w.heap.size → ¬ M ad.block) : Kept w' L a r d := fun hl => by
  obtain ⟨g, off, e, hg, hn, hc⟩ := h hl
  exact ⟨g, off, e, Nat.lt_of_lt_of_le hg ht.size, hn, fun j hj => (ht.cell (a := ⟨g, off + j, none⟩) hg (hM ⟨g, off, none⟩ e hg)).trans (hc j hj)⟩

theorem Kept.alloc {w : World} {L : Nat} {a r : Option Addr} {d : List UInt8} (h : Kept w L a r d) (o : Obj) : Kept (w.alloc o) L a r d := h.touch (Touch.alloc w o (fun _ => False)) (fun _ _ _ h => h)
theorem Kept.grow {w w' : World} {L : Nat} {a r : Option Addr} {d : List UInt8} (h : Kept w L a r d) (hb : Below w.heap.size w w') : Kept w' L a r d := h.touch (Touch.grows hb (fun _ => False)) (fun _ _ _ h => h)

/-- What Next hands back lies beside. -/
theorem Kept.told {w w' : World} {L : Nat} {a a' r : Option Addr} {cap : Nat} {bs d : List UInt8} {want : Int} {dr : Bool} (hx : XAt w L a cap bs want dr) (hr : Rd w' r d) (hra : After w none r) (ha : Within a a') : Kept w' L a' r d :=
  Kept.of hr fun ad had hf => by
    have h1 := hx.inA_lt ad.block (by
      rcases hf with h | ⟨bd, hb, e⟩
      · exact .inl h
      · rw [← e]; exact .inr (ha bd hb))
    rcases hra ad had with ⟨_, h, _⟩ | h
    · cases h
    · omega

theorem Kept.take {w : World} {L : Nat} {a r : Option Addr} {d : List UInt8} (h : Kept w L a r d) (n : Nat) : Kept w L a r (d.take n) := fun hl => by
  have hl' := hl
  simp only [List.length_take] at hl'
  obtain ⟨g, off, e, hg, hn, hc⟩ := h (by omega)
  refine ⟨g, off, e, hg, hn, fun j hj => ?_⟩
  simp only [List.length_take] at hj
  rw [N8_getD_take _ _ _ (by omega)]
  exact hc j (by omega)

/-- A block beside. -/
structure Blk (w : World) (L : Nat) (a : Option Addr) (E : Nat) (o : Obj) : Prop where
  at_ : w.heap[E]? = some o
  free : ¬ Foot L a E

theorem Blk.step {w w' : World} {L : Nat} {a a' : Option Addr} {E : Nat} {o : Obj} (h : Blk w L a E o) (ht : Touch w w' (Foot L a)) (haf : After w a a') : Blk w' L a' E o :=
  ⟨blk_touch h.at_ ht h.free, foot_after haf (blk_lt h.at_) h.free⟩
theorem Blk.alloc {w : World} {L : Nat} {a : Option Addr} {E : Nat} {o : Obj} (h : Blk w L a E o) (o' : Obj) : Blk (w.alloc o') L a E o := ⟨blk_alloc h.at_, h.free⟩
theorem Blk.grow {w w' : World} {L : Nat} {a : Option Addr} {E : Nat} {o : Obj} (h : Blk w L a E o) (hb : Below w.heap.size w w') : Blk w' L a E o := ⟨blk_below h.at_ hb (blk_lt h.at_), h.free⟩
theorem Blk.new {w : World} {L : Nat} {a : Option Addr} {cap : Nat} {bs : List UInt8} {want : Int} {dr : Bool} (hx : XAt w L a cap bs want dr) (o : Obj) : Blk (w.alloc o) L a w.heap.size o :=
  ⟨blk_new w o, fun h => by have := hx.inA_lt _ h; omega⟩

/-- A block of the call's own beside the Lines is written. -/
theorem Own.set {w0 w : World} {L : Nat} {a : Option Addr} {cap : Nat} {bs : List UInt8} {want : Int} {dr : Bool} (h : Own w0 w L a cap bs want dr) {E : Nat} (hE : w0.heap.size ≤ E) (hn : ¬ Foot L a E) (o : Nat) (v : Value) : Own w0 (w.setCell ⟨E, o, none⟩ v) L a cap bs want dr :=
  ⟨h.x.touch (Touch.setCell w ⟨E, o, none⟩ v (M := fun k => k = E) rfl) (fun _ hk e => hn (e ▸ hk)), h.bel.setCell hE v, h.lo, h.lo'⟩

theorem Kept.set {w : World} {L : Nat} {a r : Option Addr} {d : List UInt8} (h : Kept w L a r d) {E : Nat} (hE : ∀ ad, r = some ad → ad.block < w.heap.size → ad.block ≠ E) (o : Nat) (v : Value) : Kept (w.setCell ⟨E, o, none⟩ v) L a r d :=
  h.touch (Touch.setCell w ⟨E, o, none⟩ v (M := fun k => k = E) rfl) hE

end Go.Proofs.Ytobafefpkkahjaa

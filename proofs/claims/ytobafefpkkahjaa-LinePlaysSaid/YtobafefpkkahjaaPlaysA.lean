/- LinePlays: the state of both Lines, and what each act makes of it. -/
import Derived.Test.YtobafefpkkahjaaScript
namespace Go.Proofs.Ytobafefpkkahjaa
open Go.RowKit

/-- Both Lines hold the same: the program's at L, the reference's at Y; w0 is the world in which the call began. -/
structure Pst (w0 w : World) (L Y : Nat) (ax : Option Addr) (cx : Nat) (ay : Option Addr) (cy : Nat) (bs : List UInt8) (want : Int) (dr : Bool) : Prop where
  own : Own w0 w L ax cx bs want dr
  y : YSt w Y ay cy bs want dr
  ylo : w0.heap.size ≤ Y
  ne : ¬ Foot L ax Y
  nb : ∀ ad, ay = some ad → 0 < bs.length → ¬ Foot L ax ad.block
  wl : -1 ≤ want
  sz : bs.length ≤ 4096

theorem YSt.touch {w w' : World} {Y : Nat} {a : Option Addr} {cap : Nat} {bs : List UInt8} {want : Int} {dr : Bool} {M : Nat → Prop} (h : YSt w Y a cap bs want dr) (ht : Touch w w' M) (hY : ¬ M Y) (ha : ∀ ad, a = some ad → 0 < bs.length → ¬ M ad.block) : YSt w' Y a cap bs want dr := by
  obtain ⟨n, hy, hn⟩ := h
  exact ⟨n, hy.touch ht hY ha, hn⟩

theorem Own.beside {w0 w w' : World} {L Y : Nat} {a : Option Addr} {cap : Nat} {bs : List UInt8} {want : Int} {dr : Bool} (h : Own w0 w L a cap bs want dr) (ht : Touch w w' (fun k => k = Y)) (hY : w0.heap.size ≤ Y) (hn : ¬ Foot L a Y) : Own w0 w' L a cap bs want dr :=
  ⟨h.x.touch ht (fun k hf e => hn (e ▸ hf)), h.bel.trans (ht.below h.bel.size (fun i hi e => by omega)), h.lo, h.lo'⟩

theorem Pst.grow {w0 w w' : World} {L Y : Nat} {ax : Option Addr} {cx : Nat} {ay : Option Addr} {cy : Nat} {bs : List UInt8} {want : Int} {dr : Bool} (h : Pst w0 w L Y ax cx ay cy bs want dr) (hb : Below w.heap.size w w') : Pst w0 w' L Y ax cx ay cy bs want dr :=
  ⟨h.own.touch hb, h.y.touch (Touch.grows hb (fun _ => False)) (fun h => h) (fun _ _ _ h => h), h.ylo, h.ne, h.nb, h.wl, h.sz⟩

theorem Pst.drew {w0 w : World} {L Y : Nat} {ax : Option Addr} {cx : Nat} {ay : Option Addr} {cy : Nat} {bs : List UInt8} {want : Int} {dr : Bool} (h : Pst w0 w L Y ax cx ay cy bs want dr) : Pst w0 w.drew L Y ax cx ay cy bs want dr := h.grow ((Below.refl _ _).drew)

/-- Behind the program's step: the reference's Lines lies where it lay. -/
structure Half (w0 w : World) (L Y : Nat) (ax : Option Addr) (cx : Nat) (ay : Option Addr) (cy : Nat) (bs bs' : List UInt8) (want want' : Int) (dr dr' : Bool) : Prop where
  own : Own w0 w L ax cx bs' want' dr'
  y : YSt w Y ay cy bs want dr
  ylo : w0.heap.size ≤ Y
  ne : ¬ Foot L ax Y
  nb : ∀ ad, ay = some ad → 0 < bs.length → ¬ Foot L ax ad.block

theorem Pst.half {w0 w w' : World} {L Y : Nat} {ax ax' : Option Addr} {cx cx' : Nat} {ay : Option Addr} {cy : Nat} {bs bs' : List UInt8} {want want' : Int} {dr dr' : Bool} (h : Pst w0 w L Y ax cx ay cy bs want dr)
    (hx : XAt w' L ax' cx' bs' want' dr') (ht : Touch w w' (Foot L ax)) (ha : After w ax ax') : Half w0 w' L Y ax' cx' ay cy bs bs' want want' dr dr' := by
  have hY : Y < w.heap.size := by obtain ⟨n, hy, _⟩ := h.y; exact blk_lt hy.cell
  refine ⟨h.own.step hx ht ha, h.y.touch ht h.ne h.nb, h.ylo, foot_after ha hY h.ne, fun ad had hl => ?_⟩
  obtain ⟨n, hy, _⟩ := h.y
  obtain ⟨g, off, e, hg, _⟩ := hy.rd hl
  rw [had] at e; cases e
  exact foot_after ha hg (h.nb _ had hl)

theorem Half.grow {w0 w w' : World} {L Y : Nat} {ax : Option Addr} {cx : Nat} {ay : Option Addr} {cy : Nat} {bs bs' : List UInt8} {want want' : Int} {dr dr' : Bool} (h : Half w0 w L Y ax cx ay cy bs bs' want want' dr dr') (hb : Below w.heap.size w w') : Half w0 w' L Y ax cx ay cy bs bs' want want' dr dr' :=
  ⟨h.own.touch hb, h.y.touch (Touch.grows hb (fun _ => False)) (fun h => h) (fun _ _ _ h => h), h.ylo, h.ne, h.nb⟩

theorem Half.whole {w0 w w' : World} {L Y : Nat} {ax : Option Addr} {cx : Nat} {ay ay' : Option Addr} {cy cy' : Nat} {bs bs' : List UInt8} {want want' : Int} {dr dr' : Bool} (h : Half w0 w L Y ax cx ay cy bs bs' want want' dr dr')
    (hy : YSt w' Y ay' cy' bs' want' dr') (ht : Touch w w' (fun k => k = Y)) (hb : ∀ ad, ay' = some ad → 0 < bs'.length → ¬ Foot L ax ad.block) (hw : -1 ≤ want') (hs : bs'.length ≤ 4096) : Pst w0 w' L Y ax cx ay' cy' bs' want' dr' :=
  ⟨h.own.beside ht h.ylo h.ne, hy, h.ylo, h.ne, hb, hw, hs⟩

/-- What step leaves is no more than what waited. -/
theorem step_len (bs : List UInt8) (want : Int) (dr : Bool) : (step bs want dr).bs.length ≤ bs.length := by
  unfold step
  split
  · split <;> simp
  · split
    · simp only []; split <;> simp
    · simp
theorem step_want (bs : List UInt8) (want : Int) (dr : Bool) (h : -1 ≤ want) : -1 ≤ (step bs want dr).want := by
  unfold step
  split
  · split <;> simp; exact h
  · split <;> simp

/-- Behind the reference's Next: its buffer is where it was. -/
theorem Half.next {w0 w w' : World} {L Y : Nat} {ax : Option Addr} {cx : Nat} {ay ay' : Option Addr} {cy cy' : Nat} {bs bs' : List UInt8} {want want' : Int} {dr dr' : Bool} (h : Half w0 w L Y ax cx ay cy bs bs' want want' dr dr')
    (hy : YSt w' Y ay' cy' bs' want' dr') (ht : Touch w w' (fun k => k = Y)) (hin : ∀ ad, ay' = some ad → 0 < bs'.length → InA ay ad.block) (hlen : bs'.length ≤ bs.length) (hw : -1 ≤ want') (hs : bs.length ≤ 4096) : Pst w0 w' L Y ax cx ay' cy' bs' want' dr' :=
  h.whole hy ht (fun ad had hl => by
    obtain ⟨bd, hb, e⟩ := hin ad had hl
    rw [← e]
    exact h.nb bd hb (by omega)) hw (by omega)

/-- The reference's Feed and Want, of its state. -/
theorem rfeed_said (Y : Nat) (a : Option Addr) (cap : Nat) (bs : List UInt8) (want : Int) (dr : Bool) (b : Option Addr) (n bcap : Nat) (ys : List UInt8) (w : World) (hn : ys.length = n) (hy : YSt w Y a cap bs want dr) (hr : Rd w b ys) (hsz : bs.length + n ≤ 4096) :
    Calls Try.prog 16 #[.pointer (some ⟨Y, 0, none⟩), .slice b n bcap] w fun e w' => ∃ a' cap', e = .returned (.int .i64 0) ∧ YSt w' Y a' cap' (bs ++ ys) want dr ∧ Touch w w' (fun k => k = Y) ∧ (∀ ad, a' = some ad → w.heap.size ≤ ad.block) := by
  subst hn
  obtain ⟨m, hy, hm⟩ := hy
  refine (rfeed_ok Y a cap bs _ m dr b bcap ys w hy hr hsz).mono ?_
  rintro e w' ⟨a', cap', he, hy', ht, hf⟩
  exact ⟨a', cap', he, ⟨m, hy', hm⟩, ht, hf⟩
theorem rfeed_not (Y : Nat) (a : Option Addr) (cap : Nat) (bs : List UInt8) (want : Int) (dr : Bool) (b : Option Addr) (n bcap : Nat) (w : World) (hy : YSt w Y a cap bs want dr) (hb : bs.length ≤ 4096) (hsz : 4096 < bs.length + n) :
    Calls Try.prog 16 #[.pointer (some ⟨Y, 0, none⟩), .slice b n bcap] w fun e w' => e = .returned (.int .i64 5) ∧ w = w' := by
  obtain ⟨m, hy, _⟩ := hy
  exact rfeed_no Y a cap bs _ m dr b n bcap w hy hb hsz
theorem rwant_said (Y : Nat) (a : Option Addr) (cap : Nat) (bs : List UInt8) (want : Int) (dr : Bool) (n : Int) (w : World) (hy : YSt w Y a cap bs want dr) (h0 : 0 ≤ n) (h1 : n ≤ 1200) :
    Calls Try.prog 20 #[.pointer (some ⟨Y, 0, none⟩), .int .i64 n] w fun e w' => e = .returned (.int .i64 0) ∧ YSt w' Y a cap bs n dr ∧ Touch w w' (fun k => k = Y) := by
  obtain ⟨m, hy, _⟩ := hy
  refine (rwant_ok Y a cap bs _ m dr n w hy h0 h1).mono ?_
  rintro e w' ⟨he, hy', ht⟩
  have hd : decide (n ≠ -1) = true := by simp; omega
  exact ⟨he, ⟨n, by rw [hd]; exact hy', fun _ => rfl⟩, ht⟩

end Go.Proofs.Ytobafefpkkahjaa

/- Bytes in memory: slices that are read, a buffer that is appended to, what an operation leaves as it was. Nothing of the program but its types' numbers. -/
import Derived.Test.YtobafefpkkahjaaShelf
import Derived.Test.YtobafefpkkahjaaChecked
import Derived.WalkKit
import Derived.WalkLawsBesides
import Derived.LoopTactic
import Derived.Outline
import Derived.Below
import Derived.Lib.Hide
import Derived.Deep.AppendSrc
import Derived.Deep.Upon
import Derived.Deep.MidRow
import Derived.WalkSmall
import Derived.Deep.Draws
import Derived.IntWalk
namespace Go.Proofs.Ytobafefpkkahjaa
open Go.RowKit

/-! ### Bytes as numbers -/
def N8 (bs : List UInt8) : List Int := bs.map fun b => (b.toNat : Int)
def C8 (bs : List UInt8) : List Value := (N8 bs).map (Value.int .u8)

@[simp] theorem N8_length (bs : List UInt8) : (N8 bs).length = bs.length := by simp [N8]
@[simp] theorem C8_length (bs : List UInt8) : (C8 bs).length = bs.length := by simp [C8]
theorem N8_append (a b : List UInt8) : N8 (a ++ b) = N8 a ++ N8 b := by simp [N8]
theorem C8_append (a b : List UInt8) : C8 (a ++ b) = C8 a ++ C8 b := by simp [C8, N8]
theorem bytesOf_N8 (bs : List UInt8) : Lib.bytesOf (N8 bs) = bs := by
  unfold Lib.bytesOf N8
  rw [List.map_map]
  conv => rhs; rw [← List.map_id bs]
  apply List.map_congr_left
  intro b _
  simp
theorem N8_get (bs : List UInt8) (j : Nat) : (N8 bs).getD j 0 = ((bs.getD j 0).toNat : Int) := by
  simp only [N8, List.getD_eq_getElem?_getD, List.getElem?_map]
  cases bs[j]? <;> simp
theorem C8_get (bs : List UInt8) (j : Nat) (u : Value) (h : (C8 bs)[j]? = some u) : u = .int .u8 ((N8 bs).getD j 0) ∧ j < bs.length := by
  have hj : j < bs.length := by
    have := (List.getElem?_eq_some_iff.1 h).1
    simpa using this
  rw [C8, List.getElem?_map, List.getElem?_eq_getElem (by simpa using hj)] at h
  simp only [Option.map_some, Option.some.injEq] at h
  exact ⟨by rw [← h, List.getD_eq_getElem?_getD, List.getElem?_eq_getElem (by simpa using hj)]; rfl, hj⟩
theorem C8_at (bs : List UInt8) (j : Nat) (h : j < bs.length) : (C8 bs)[j]? = some (.int .u8 ((N8 bs).getD j 0)) := by
  rw [C8, List.getElem?_map, List.getElem?_eq_getElem (by simpa using h), List.getD_eq_getElem?_getD, List.getElem?_eq_getElem (by simpa using h)]
  rfl
theorem C8_one (bs : List UInt8) : ∀ u ∈ C8 bs, u.oneCell' = true := by
  intro u hu
  obtain ⟨_, _, rfl⟩ := List.mem_map.1 hu
  rfl

/-! ### What is left as it was -/
/-- Of the blocks of w none has turned but those of M; the streams are as they were. -/
structure Touch (w w' : World) (M : Nat → Prop) : Prop where
  os : w'.os = w.os
  tape : w'.tape = w.tape
  output : w'.output = w.output
  size : w.heap.size ≤ w'.heap.size
  block : ∀ k, k < w.heap.size → ¬ M k → w'.heap[k]? = w.heap[k]?

theorem Touch.refl (w : World) (M : Nat → Prop) : Touch w w M := ⟨rfl, rfl, rfl, Nat.le_refl _, fun _ _ _ => rfl⟩
theorem Touch.trans {a b c : World} {M M' : Nat → Prop} (h : Touch a b M) (k : Touch b c M') (hM : ∀ i, i < a.heap.size → M' i → M i) : Touch a c M :=
  ⟨k.os.trans h.os, k.tape.trans h.tape, k.output.trans h.output, Nat.le_trans h.size k.size, fun i hi hn => (k.block i (Nat.lt_of_lt_of_le hi h.size) (fun hm => hn (hM i hi hm))).trans (h.block i hi hn)⟩
theorem Touch.weaken {a b : World} {M M' : Nat → Prop} (h : Touch a b M) (hM : ∀ i, i < a.heap.size → M i → M' i) : Touch a b M' := ⟨h.os, h.tape, h.output, h.size, fun k hk hn => h.block k hk fun hm => hn (hM k hk hm)⟩
theorem Touch.of_below {w w' : World} {B : Nat} (h : Below B w w') {M : Nat → Prop} (hM : ∀ i, i < w.heap.size → B ≤ i → M i) : Touch w w' M :=
  ⟨h.os, h.tape, h.output, h.size, fun k hk hn => h.block k (by
    apply Nat.lt_of_not_le
    intro hB
    exact hn (hM k hk hB))⟩
theorem Touch.grows {w w' : World} (h : Below w.heap.size w w') (M : Nat → Prop) : Touch w w' M := Touch.of_below h fun i hi hB => by omega
theorem Touch.drew (w : World) (M : Nat → Prop) : Touch w w.drew M := ⟨rfl, rfl, rfl, Nat.le_refl _, fun _ _ _ => rfl⟩
theorem Touch.alloc (w : World) (o : Obj) (M : Nat → Prop) : Touch w (w.alloc o) M := ⟨rfl, rfl, rfl, by simp, fun k hk _ => Below.heap_alloc w o k hk⟩
theorem Touch.setCell (w : World) (a : Addr) (v : Value) {M : Nat → Prop} (hM : M a.block) : Touch w (w.setCell a v) M := ⟨rfl, rfl, rfl, by simp [World.setCell], fun k _ hn => Below.heap_setCell w a v k (fun e => hn (e ▸ hM))⟩
theorem Touch.cell {w w' : World} {M : Nat → Prop} (h : Touch w w' M) {a : Addr} (hl : a.block < w.heap.size) (hn : ¬ M a.block) : w'.cell? a = w.cell? a := World.cell?_of_block (h.block _ hl hn)
theorem Touch.frozen {w w' : World} {M : Nat → Prop} (h : Touch w w' M) {a : Addr} (hl : a.block < w.heap.size) (hn : ¬ M a.block) : w'.frozen? a = w.frozen? a := World.frozen?_of_block (h.block _ hl hn)
/-- Nothing below B is of M: below B all is as it was. -/
theorem Touch.below {w w' : World} {M : Nat → Prop} {B : Nat} (h : Touch w w' M) (hB : B ≤ w.heap.size) (hM : ∀ i, i < B → ¬ M i) : Below B w w' := ⟨h.os, h.tape, h.output, h.size, fun k hk => h.block k (by omega) (hM k hk)⟩

/-! ### Slices of bytes -/
/-- The slice at a, of bs.length bytes, reads bs. -/
def Rd (w : World) (a : Option Addr) (bs : List UInt8) : Prop :=
  0 < bs.length → ∃ g off, a = some ⟨g, off, none⟩ ∧ g < w.heap.size ∧ ∀ j, j < bs.length → w.cell? ⟨g, off + j, none⟩ = some (.int .u8 ((N8 bs).getD j 0))

theorem Rd.nil (w : World) (a : Option Addr) : Rd w a [] := fun h => absurd h (by simp)

/-- Is the block of a slice's address one of M? -/
def At (a : Option Addr) (M : Nat → Prop) : Prop := ∃ ad, a = some ad ∧ M ad.block

theorem Rd.touch {w w' : World} {a : Option Addr} {bs : List UInt8} {M : Nat → Prop} (h : Rd w a bs) (ht : Touch w w' M) (hn : ¬ At a M) : Rd w' a bs := by
  intro hl
  obtain ⟨g, off, rfl, hg, hc⟩ := h hl
  have hM : ¬ M g := fun hm => hn ⟨_, rfl, hm⟩
  exact ⟨g, off, rfl, Nat.lt_of_lt_of_le hg ht.size, fun j hj => (ht.cell (a := ⟨g, off + j, none⟩) hg hM).trans (hc j hj)⟩

/-- A buffer of the call's own: its elements read bs, all its cells may be written. -/
def Tl (w : World) (a : Option Addr) (cap : Nat) (bs : List UInt8) : Prop :=
  bs.length ≤ cap ∧ (a = none → cap = 0) ∧ ∀ ad, a = some ad → ∃ g off, ad = ⟨g, off, none⟩ ∧ g < w.heap.size ∧
    (∀ j, j < bs.length → w.cell? ⟨g, off + j, none⟩ = some (.int .u8 ((N8 bs).getD j 0))) ∧ ∀ j, j < cap → (w.cell? ⟨g, off + j, none⟩).isSome = true ∧ w.frozen? ⟨g, off + j, none⟩ = false

theorem Tl.nil (w : World) : Tl w none 0 [] := ⟨by simp, fun _ => rfl, fun _ h => by cases h⟩

theorem Tl.rd {w : World} {a : Option Addr} {cap : Nat} {bs : List UInt8} (h : Tl w a cap bs) : Rd w a bs := by
  intro hl
  cases a with
  | none => have := h.2.1 rfl; have := h.1; omega
  | some ad =>
    obtain ⟨g, off, rfl, hg, hc, _⟩ := h.2.2 ad rfl
    exact ⟨g, off, rfl, hg, hc⟩

theorem Tl.touch {w w' : World} {a : Option Addr} {cap : Nat} {bs : List UInt8} {M : Nat → Prop} (h : Tl w a cap bs) (ht : Touch w w' M) (hn : ¬ At a M) : Tl w' a cap bs := by
  refine ⟨h.1, h.2.1, fun ad had => ?_⟩
  obtain ⟨g, off, rfl, hg, hc, hf⟩ := h.2.2 ad had
  have hM : ¬ M g := fun hm => hn ⟨_, had, hm⟩
  exact ⟨g, off, rfl, Nat.lt_of_lt_of_le hg ht.size, fun j hj => (ht.cell (a := ⟨g, off + j, none⟩) hg hM).trans (hc j hj),
    fun j hj => ⟨by rw [ht.cell (a := ⟨g, off + j, none⟩) hg hM]; exact (hf j hj).1, (ht.frozen (a := ⟨g, off + j, none⟩) hg hM).trans (hf j hj).2⟩⟩

theorem N8_getD_append_left (a b : List UInt8) (j : Nat) (h : j < a.length) : (N8 (a ++ b)).getD j 0 = (N8 a).getD j 0 := by
  rw [N8_append, List.getD_eq_getElem?_getD, List.getElem?_append_left (by simpa using h), List.getD_eq_getElem?_getD]
theorem N8_getD_append_right (a b : List UInt8) (j : Nat) : (N8 (a ++ b)).getD (a.length + j) 0 = (N8 b).getD j 0 := by
  rw [N8_append, List.getD_eq_getElem?_getD, List.getElem?_append_right (by simp), List.getD_eq_getElem?_getD]
  simp
theorem N8_getD_drop (a : List UInt8) (n j : Nat) : (N8 (a.drop n)).getD j 0 = (N8 a).getD (n + j) 0 := by
  simp [N8, List.getD_eq_getElem?_getD]
theorem N8_getD_take (a : List UInt8) (n j : Nat) (h : j < n) : (N8 (a.take n)).getD j 0 = (N8 a).getD j 0 := by
  simp [N8, List.getD_eq_getElem?_getD, h]

/-- The rest of a buffer. -/
theorem Tl.drop {w : World} {ad : Addr} {cap : Nat} {bs : List UInt8} (h : Tl w (some ad) cap bs) (n : Nat) (hn : n ≤ bs.length) (hc : n < cap) : Tl w (some ⟨ad.block, ad.off + n, none⟩) (cap - n) (bs.drop n) := by
  obtain ⟨g, off, rfl, hg, h1, h2⟩ := h.2.2 ad rfl
  have := h.1
  refine ⟨(by simp; omega), (fun e => by cases e), fun a' ha' => ?_⟩
  cases ha'
  refine ⟨g, off + n, rfl, hg, fun j hj => ?_, fun j hj => ?_⟩
  · simp only [List.length_drop] at hj
    rw [N8_getD_drop, Nat.add_assoc]
    exact h1 (n + j) (by omega)
  · rw [Nat.add_assoc]
    exact h2 (n + j) (by omega)

theorem Rd.take {w : World} {a : Option Addr} {bs : List UInt8} (h : Rd w a bs) (n : Nat) : Rd w a (bs.take n) := by
  intro hl
  simp only [List.length_take] at hl
  obtain ⟨g, off, rfl, hg, hc⟩ := h (by omega)
  refine ⟨g, off, rfl, hg, fun j hj => ?_⟩
  simp only [List.length_take] at hj
  rw [N8_getD_take _ _ _ (by omega)]
  exact hc j (by omega)

theorem Rd.drop {w : World} {b off : Nat} {bs : List UInt8} (h : Rd w (some ⟨b, off, none⟩) bs) (n : Nat) : Rd w (some ⟨b, off + n, none⟩) (bs.drop n) := by
  intro hl
  simp only [List.length_drop] at hl
  obtain ⟨g, off', e, hg, hc⟩ := h (by omega)
  cases e
  refine ⟨b, off + n, rfl, hg, fun j hj => ?_⟩
  simp only [List.length_drop] at hj
  rw [N8_getD_drop, Nat.add_assoc]
  exact hc (n + j) (by omega)

/-! ### Blocks that are known whole -/
theorem blk_set {w : World} {b o : Nat} {c : Array Value} {e : TypeId} {fz : Nat × Nat} (h : w.heap[b]? = some (.cells c e fz)) (v : Value) : (w.setCell ⟨b, o, none⟩ v).heap[b]? = some (.cells (c.setIfInBounds o v) e fz) := by
  simp [World.setCell, Array.getElem?_modify, h]
theorem blk_other {w : World} {b : Nat} {a : Addr} {x : Option Obj} (h : w.heap[b]? = x) (hne : b ≠ a.block) (v : Value) : (w.setCell a v).heap[b]? = x := (Below.heap_setCell w a v b hne).trans h
theorem blk_below {w w' : World} {b B : Nat} {x : Option Obj} (h : w.heap[b]? = x) (hb : Below B w w') (hB : b < B) : w'.heap[b]? = x := (hb.block b hB).trans h
theorem blk_cell {w : World} {b o : Nat} {c : Array Value} {e : TypeId} {fz : Nat × Nat} (h : w.heap[b]? = some (.cells c e fz)) : w.cell? ⟨b, o, none⟩ = c[o]? := by simp [World.cell?, h]
theorem blk_free {w : World} {b o : Nat} {c : Array Value} {e : TypeId} (h : w.heap[b]? = some (.cells c e (0, 0))) : w.frozen? ⟨b, o, none⟩ = false := by simp [World.frozen?, h]
theorem blk_lt {w : World} {b : Nat} {x : Obj} (h : w.heap[b]? = some x) : b < w.heap.size := (Array.getElem?_eq_some_iff.1 h).1
theorem blk_drew {w : World} {b : Nat} {x : Option Obj} (h : w.heap[b]? = x) : w.drew.heap[b]? = x := h
theorem blk_alloc {w : World} {b : Nat} {x : Obj} {o : Obj} (h : w.heap[b]? = some x) : (w.alloc o).heap[b]? = some x := (Below.heap_alloc w o b (blk_lt h)).trans h
theorem blk_new (w : World) (o : Obj) : (w.alloc o).heap[w.heap.size]? = some o := heap_alloc_new w _
theorem blk_new' {w : World} {b : Nat} (hb : b = w.heap.size) (o : Obj) : (w.alloc o).heap[b]? = some o := hb ▸ heap_alloc_new w _
theorem blk_touch {w w' : World} {b : Nat} {x : Obj} {M : Nat → Prop} (h : w.heap[b]? = some x) (ht : Touch w w' M) (hn : ¬ M b) : w'.heap[b]? = some x := (ht.block b (blk_lt h) hn).trans h

/-! ### append onto a buffer of the call's own -/
theorem Try.info5 : (Try.prog.info? 5).map (fun i => (i.zero, i.size, i.bytes)) = some (some (.int .u8 0), 1, 1) := by kernel_rfl

theorem src_of {w : World} {a : Option Addr} {bs : List UInt8} (h : Rd w a bs) (c : Nat) : Src Try.prog 1 22 (.slice a bs.length c) bs.length (C8 bs) w := by
  by_cases h0 : 0 < bs.length
  · obtain ⟨g, off, rfl, _, hc⟩ := h h0
    refine Src.ofSlice w Try.underlying22 _ _ _ _ (by simp) (fun j u hu => ?_) (C8_one bs)
    obtain ⟨rfl, hj⟩ := C8_get bs j u hu
    have e : (⟨g, off, none⟩ : Addr).add j = ⟨g, off + j, none⟩ := by unfold Addr.add; split <;> simp_all
    rw [e]
    exact hc j hj
  · have hb : bs = [] := List.eq_nil_of_length_eq_zero (by omega)
    subst hb
    cases a with
    | none => exact Src.ofNil w Try.underlying22 c
    | some ad => exact Src.ofSlice w Try.underlying22 ad 0 c [] (by simp) (fun j u hu => by simp at hu) (fun u hu => by cases hu)

/-- The block of a slice's address. -/
def InA (a : Option Addr) (k : Nat) : Prop := ∃ ad, a = some ad ∧ ad.block = k

theorem touch_setCells (g o : Nat) (vs : List Value) (w : World) : Touch w (w.setCells g o vs) (fun k => k = g) := by
  induction vs generalizing o w with
  | nil => exact Touch.refl _ _
  | cons v vs ih => exact (Touch.setCell w ⟨g, o, none⟩ v (M := fun k => k = g) rfl).trans (ih (o + 1) _) (fun i _ h => h)

/-- The buffer behind an append. -/
def After (w : World) (a a' : Option Addr) : Prop := ∀ ad', a' = some ad' → InA a ad'.block ∨ w.heap.size ≤ ad'.block
theorem After.same (w : World) (a : Option Addr) : After w a a := fun ad h => .inl ⟨ad, h, rfl⟩
theorem After.fresh (w : World) (a : Option Addr) {g : Nat} (h : w.heap.size ≤ g) (o : Nat) : After w a (some ⟨g, o, none⟩) := fun ad h' => by cases h'; exact .inr h
theorem After.none (w : World) (a : Option Addr) : After w a none := fun ad h' => by cases h'
theorem After.trans {w w1 : World} {a b c : Option Addr} (h : After w a b) (k : After w1 b c) (hw : w.heap.size ≤ w1.heap.size) : After w a c := fun ad had => by
  rcases k ad had with ⟨bd, hb, e⟩ | h1
  · rcases h bd hb with h2 | h2
    · rw [← e]; exact .inl h2
    · exact .inr (by omega)
  · exact .inr (by omega)
/-- The same buffer, or none. -/
def Within (a a' : Option Addr) : Prop := ∀ ad', a' = some ad' → InA a ad'.block
theorem Within.same (a : Option Addr) : Within a a := fun ad h => ⟨ad, h, rfl⟩
theorem Within.none (a : Option Addr) : Within a none := fun ad h' => by cases h'
theorem Within.after {a a' : Option Addr} (h : Within a a') (w : World) : After w a a' := fun ad had => .inl (h ad had)
theorem addr_add (g off i : Nat) : (⟨g, off, none⟩ : Addr).add i = ⟨g, off + i, none⟩ := by unfold Addr.add; split <;> simp_all

theorem run_append_tl {w : World} {a : Option Addr} {cap : Nat} {bs ys : List UInt8} {x : Value} (ty : TypeId) (h : Tl w a cap bs) (hs : Src Try.prog 1 22 x ys.length (C8 ys) w) (hb : bs.length + ys.length ≤ 1000000) :
    ∃ a' cap' w', (Builtin.append_ #[22, 22] ty #[.slice a bs.length cap, x]).run Try.prog w = .ok (.slice a' (bs.length + ys.length) cap') w' ∧ Tl w' a' cap' (bs ++ ys) ∧ Touch w w' (InA a) ∧ After w a a' := by
  obtain ⟨i0, hi, hz0, hz1, hz2⟩ := info_parts Try.info5
  have grow : ∀ olds : List Value, (Builtin.firstCells i0.size bs.length (.slice a bs.length cap)).run Try.prog w.drew = .ok olds.toArray w.drew → olds = C8 bs → cap < bs.length + ys.length →
      ∃ a' cap' w', (Builtin.append_ #[22, 22] ty #[.slice a bs.length cap, x]).run Try.prog w = .ok (.slice a' (bs.length + ys.length) cap') w' ∧ Tl w' a' cap' (bs ++ ys) ∧ Touch w w' (InA a) ∧ After w a a' := by
    intro olds hold ho hlt
    subst ho
    have hr := run_append_grow_src (P := Try.prog) w 22 22 ty 5 i0 _ Try.underlying22 hi hz0 a bs.length cap _ hold x ys.length (C8 ys) (by rw [hz1]; exact hs) hlt (by omega) (by rw [hz2]; exact growslice_fits hlt (by omega))
    refine ⟨_, _, _, hr, ⟨?_, (fun e => by cases e), fun ad had => ?_⟩, (Touch.drew w _).trans (Touch.alloc _ _ _) (fun _ _ h => h), After.fresh _ _ (Nat.le_refl _) _⟩
    · have := grownCap_ge w (bs.length + ys.length) cap 5
      simp; omega
    · cases had
      have hge := grownCap_ge w (bs.length + ys.length) cap 5
      generalize grownCap w (bs.length + ys.length) cap 5 = gc at *
      have hsz : (((C8 bs ++ C8 ys).toArray ++ Builtin.zeroCells (Value.int IntKind.u8 0).cells (gc - (bs.length + ys.length))).size) = gc := by
        simp [Builtin.zeroCells, Value.cells]; omega
      refine ⟨w.heap.size, 0, rfl, by simp, fun j hj => ?_, fun j hj => ⟨?_, ?_⟩⟩
      · rw [World.cell?_alloc_at _ _ _ _ (by simp)]
        simp only [List.length_append] at hj
        rw [Array.getElem?_append_left (by simp; omega), ← C8_append]
        simp only [List.getElem?_toArray, Nat.zero_add]
        exact C8_at (bs ++ ys) j (by simpa using hj)
      · rw [World.cell?_alloc_at _ _ _ _ (by simp), Nat.zero_add, Array.getElem?_eq_getElem (by omega)]
        rfl
      · exact World.frozen?_alloc_at _ _ _ _ (by simp)
  cases a with
  | none =>
    obtain rfl : cap = 0 := h.2.1 rfl
    have hb0 : bs = [] := List.eq_nil_of_length_eq_zero (by have := h.1; omega)
    subst hb0
    by_cases hy : ys.length = 0
    · have hy0 : ys = [] := List.eq_nil_of_length_eq_zero hy
      subst hy0
      have hr := run_append_nothing (P := Try.prog) w 22 22 ty 5 i0 Try.underlying22 hi none 0 0 (Nat.le_refl _) x (by rw [hz1]; exact hs)
      exact ⟨none, 0, w, hr, Tl.nil w, Touch.refl _ _, After.same _ _⟩
    · exact grow [] (run_firstCells_none w.drew _ _ _ _) rfl (by simp; omega)
  | some ad =>
    obtain ⟨g, off, rfl, hg, hc, hf⟩ := h.2.2 ad rfl
    by_cases hroom : bs.length + ys.length ≤ cap
    · have hr := run_append_room_src (P := Try.prog) w 22 22 ty 5 i0 Try.underlying22 hi g off bs.length cap x ys.length (C8 ys) (by rw [hz1]; exact hs) hroom
        (fun j hj => by rw [hz1, Nat.mul_one, Nat.add_assoc]; exact (hf (bs.length + j) (by simp at hj; omega)).1) (fun j hj => by rw [hz1, Nat.mul_one, Nat.add_assoc]; exact (hf (bs.length + j) (by simp at hj; omega)).2)
      rw [hz1, Nat.mul_one] at hr
      have ht := touch_setCells g (off + bs.length) (C8 ys) w
      refine ⟨_, _, _, hr, ⟨by simpa using hroom, (fun e => by cases e), fun ad had => ?_⟩, ht.weaken (fun i _ h => ⟨_, rfl, h.symm⟩), After.same _ _⟩
      cases had
      refine ⟨g, off, rfl, Nat.lt_of_lt_of_le hg ht.size, fun j hj => ?_, fun j hj => ⟨?_, ?_⟩⟩
      · simp only [List.length_append] at hj
        by_cases hlt : j < bs.length
        · rw [N8_getD_append_left _ _ _ hlt, World.cell?_setCells_out g _ _ w _ (fun _ _ => .inl (by simp; omega))]
          exact hc j hlt
        · obtain ⟨d, rfl⟩ : ∃ d, j = bs.length + d := ⟨j - bs.length, by omega⟩
          have := World.cell?_setCells_in g (C8 ys) (off + bs.length) w (fun j hj => by rw [Nat.add_assoc]; exact (hf (bs.length + j) (by simp at hj; omega)).1) d (by simp; omega)
          rw [N8_getD_append_right, ← Nat.add_assoc, this]
          have h2 := C8_at ys d (by omega)
          rw [List.getElem?_eq_getElem (by simp; omega)] at h2
          exact h2
      · exact World.isSome_setCells g _ _ w _ (hf j hj).1
      · rw [World.frozen?_setCells]; exact (hf j hj).2
    · refine grow (C8 bs) (run_firstCells_some w.drew _ _ _ _ _ _ (by rw [hz1]; simp) (fun j u hu => ?_)) rfl (by omega)
      obtain ⟨rfl, hj⟩ := C8_get bs j u hu
      have e : (⟨g, off, none⟩ : Addr).add j = ⟨g, off + j, none⟩ := by unfold Addr.add; split <;> simp_all
      rw [e]
      exact hc j hj

/-- THE LAW FOR THE WALK. -/
theorem wpList_append_tl {w : World} {ops : Array Oper} {rest : List Oper} {o : Oper} {a0 : Act} {Q : Exit → Act → World → Prop} (hgd : o.guard = none) (s x : Operand)
    (ho : o.op = .call { callee := .builtin .append, args := #[s, x], argTypes := #[22, 22] })
    (a : Option Addr) (cap : Nat) (bs ys : List UInt8) (vx : Value) (hsv : a0.eval s = .slice a bs.length cap) (hxv : a0.eval x = vx) (h : Tl w a cap bs) (hs : Src Try.prog 1 22 vx ys.length (C8 ys) w) (hb : bs.length + ys.length ≤ 1000000)
    (hk : ∀ a' cap' w', Tl w' a' cap' (bs ++ ys) → Touch w w' (InA a) → After w a a' → wpList Try.prog ops Q rest (a0.put o.dst (.slice a' (bs.length + ys.length) cap')) w') : wpList Try.prog ops Q (o :: rest) a0 w := by
  refine wpList_plain hgd fun K hK => ?_
  obtain ⟨a', cap', w', hrun, h1, h2, h3⟩ := run_append_tl o.type h hs hb
  unfold Oper.wp
  simp [execOp, ho, resolve, invoke, builtin, hsv, hxv, hrun, Result.andThen]
  exact hK _ _ (hk a' cap' w' h1 h2 h3)

end Go.Proofs.Ytobafefpkkahjaa

/- Rows of events: a row of the call's own that grows by one event at a time; the plain law of 'all'. -/
import Derived.Test.YtobafefpkkahjaaKeep
namespace Go.Proofs.Ytobafefpkkahjaa
open Go.RowKit

/-- A row of n events of the call's own; its cells. -/
structure Tr (w : World) (a : Option Addr) (n cap : Nat) (cs : List Value) : Prop where
  len : cs.length = 2 * n
  le : n ≤ cap
  nil : a = none → cap = 0
  at_ : ∀ ad, a = some ad → ∃ g off, ad = ⟨g, off, none⟩ ∧ g < w.heap.size ∧ (∀ j u, cs[j]? = some u → w.cell? ⟨g, off + j, none⟩ = some u) ∧ ∀ j, j < 2 * cap → (w.cell? ⟨g, off + j, none⟩).isSome = true ∧ w.frozen? ⟨g, off + j, none⟩ = false

theorem Tr.nothing (w : World) : Tr w none 0 0 [] := ⟨rfl, Nat.le_refl _, fun _ => rfl, fun _ h => by cases h⟩

theorem Tr.touch {w w' : World} {a : Option Addr} {n cap : Nat} {cs : List Value} {M : Nat → Prop} (h : Tr w a n cap cs) (ht : Touch w w' M) (hn : ∀ ad, a = some ad → ¬ M ad.block) : Tr w' a n cap cs := by
  refine ⟨h.len, h.le, h.nil, fun ad had => ?_⟩
  obtain ⟨g, off, rfl, hg, hc, hf⟩ := h.at_ ad had
  have hM : ¬ M g := hn _ had
  exact ⟨g, off, rfl, Nat.lt_of_lt_of_le hg ht.size, fun j u hu => (ht.cell (a := ⟨g, off + j, none⟩) hg hM).trans (hc j u hu),
    fun j hj => ⟨by rw [ht.cell (a := ⟨g, off + j, none⟩) hg hM]; exact (hf j hj).1, (ht.frozen (a := ⟨g, off + j, none⟩) hg hM).trans (hf j hj).2⟩⟩

theorem Try.info30 : (Try.prog.info? 30).map (fun i => (i.zero, i.size, i.bytes)) = some (some (.agg #[.int .i64 0, .slice none 0 0]), 2, 32) := by kernel_rfl

theorem run_append_ev {w : World} {a : Option Addr} {n cap : Nat} {cs : List Value} (ty : TypeId) (h : Tr w a n cap cs) (x : Value) (k s : Value) (hs : Src Try.prog 2 26 x 1 [k, s] w) (hb : n ≤ 100000) :
    ∃ a' cap' w', (Builtin.append_ #[26, 26] ty #[.slice a n cap, x]).run Try.prog w = .ok (.slice a' (n + 1) cap') w' ∧ Tr w' a' (n + 1) cap' (cs ++ [k, s]) ∧ Touch w w' (InA a) ∧ After w a a' := by
  obtain ⟨i0, hi, hz0, hz1, hz2⟩ := info_parts Try.info30
  have hl := h.len
  have grow : (Builtin.firstCells i0.size n (.slice a n cap)).run Try.prog w.drew = .ok cs.toArray w.drew → cap < n + 1 →
      ∃ a' cap' w', (Builtin.append_ #[26, 26] ty #[.slice a n cap, x]).run Try.prog w = .ok (.slice a' (n + 1) cap') w' ∧ Tr w' a' (n + 1) cap' (cs ++ [k, s]) ∧ Touch w w' (InA a) ∧ After w a a' := by
    intro hold hlt
    have hr := run_append_grow_src (P := Try.prog) w 26 26 ty 30 i0 _ Try.underlying26 hi hz0 a n cap cs hold x 1 [k, s] (by rw [hz1]; exact hs) hlt (by omega) (by rw [hz2]; exact growslice_fits hlt (by omega))
    have hge := grownCap_ge w (n + 1) cap 30
    refine ⟨_, _, _, hr, ⟨by simp; omega, hge, (fun e => by cases e), fun ad had => ?_⟩, (Touch.drew w _).trans (Touch.alloc _ _ _) (fun _ _ h => h), After.fresh _ _ (Nat.le_refl _) _⟩
    cases had
    generalize grownCap w (n + 1) cap 30 = gc at *
    have hzl : (Builtin.zeroCells (Value.agg #[.int .i64 0, .slice none 0 0]).cells (gc - (n + 1))).size = 2 * (gc - (n + 1)) := by
      simp [Builtin.zeroCells, Value.cells]; omega
    have hsz : (((cs ++ [k, s]).toArray ++ Builtin.zeroCells (Value.agg #[.int .i64 0, .slice none 0 0]).cells (gc - (n + 1))).size) = 2 * gc := by
      rw [Array.size_append, hzl]; simp; omega
    refine ⟨w.heap.size, 0, rfl, by simp, fun j u hu => ?_, fun j hj => ⟨?_, ?_⟩⟩
    · rw [World.cell?_alloc_at _ _ _ _ (by simp)]
      have hj := (List.getElem?_eq_some_iff.1 hu).1
      rw [Nat.zero_add, Array.getElem?_append_left (by simpa using hj)]
      simpa using hu
    · rw [World.cell?_alloc_at _ _ _ _ (by simp), Nat.zero_add, Array.getElem?_eq_getElem (by omega)]
      rfl
    · exact World.frozen?_alloc_at _ _ _ _ (by simp)
  cases a with
  | none =>
    obtain rfl : cap = 0 := h.nil rfl
    obtain rfl : n = 0 := by have := h.le; omega
    have hcs : cs = [] := List.eq_nil_of_length_eq_zero (by omega)
    subst hcs
    exact grow (run_firstCells_none w.drew _ _ _ _) (by omega)
  | some ad =>
    obtain ⟨g, off, rfl, hg, hc, hf⟩ := h.at_ ad rfl
    by_cases hroom : n + 1 ≤ cap
    · have hr := run_append_room_src (P := Try.prog) w 26 26 ty 30 i0 Try.underlying26 hi g off n cap x 1 [k, s] (by rw [hz1]; exact hs) hroom
        (fun j hj => by rw [hz1, Nat.add_assoc]; exact (hf (n * 2 + j) (by simp at hj; omega)).1) (fun j hj => by rw [hz1, Nat.add_assoc]; exact (hf (n * 2 + j) (by simp at hj; omega)).2)
      rw [hz1] at hr
      have ht := touch_setCells g (off + n * 2) [k, s] w
      refine ⟨_, _, _, hr, ⟨by simp; omega, hroom, (fun e => by cases e), fun ad had => ?_⟩, ht.weaken (fun i _ h => ⟨_, rfl, h.symm⟩), After.same _ _⟩
      cases had
      refine ⟨g, off, rfl, Nat.lt_of_lt_of_le hg ht.size, fun j u hu => ?_, fun j hj => ⟨?_, ?_⟩⟩
      · by_cases hlt : j < cs.length
        · rw [List.getElem?_append_left hlt] at hu
          rw [World.cell?_setCells_out g _ _ w _ (fun _ _ => .inl (by simp; omega))]
          exact hc j u hu
        · obtain ⟨d, rfl⟩ : ∃ d, j = cs.length + d := ⟨j - cs.length, by omega⟩
          rw [List.getElem?_append_right (by omega), Nat.add_sub_cancel_left] at hu
          have hd := (List.getElem?_eq_some_iff.1 hu).1
          have := World.cell?_setCells_in g [k, s] (off + n * 2) w (fun j hj => by rw [Nat.add_assoc]; exact (hf (n * 2 + j) (by simp at hj; omega)).1) d hd
          rw [show off + (cs.length + d) = off + n * 2 + d by omega, this]
          rw [List.getElem?_eq_getElem hd] at hu
          exact hu
      · exact World.isSome_setCells g _ _ w _ (hf j hj).1
      · rw [World.frozen?_setCells]; exact (hf j hj).2
    · refine grow (run_firstCells_some w.drew _ _ _ _ _ _ (by rw [hz1]; omega) (fun j u hu => ?_)) (by omega)
      rw [addr_add]
      exact hc j u hu

theorem wpList_append_ev {w : World} {ops : Array Oper} {rest : List Oper} {o : Oper} {a0 : Act} {Q : Exit → Act → World → Prop} (hgd : o.guard = none) (s x : Operand)
    (ho : o.op = .call { callee := .builtin .append, args := #[s, x], argTypes := #[26, 26] })
    (a : Option Addr) (n cap : Nat) (cs : List Value) (vx k v : Value) (hsv : a0.eval s = .slice a n cap) (hxv : a0.eval x = vx) (h : Tr w a n cap cs) (hs : Src Try.prog 2 26 vx 1 [k, v] w) (hb : n ≤ 100000)
    (hk : ∀ a' cap' w', Tr w' a' (n + 1) cap' (cs ++ [k, v]) → Touch w w' (InA a) → After w a a' → wpList Try.prog ops Q rest (a0.put o.dst (.slice a' (n + 1) cap')) w') : wpList Try.prog ops Q (o :: rest) a0 w := by
  refine wpList_plain hgd fun K hK => ?_
  obtain ⟨a', cap', w', hrun, h1, h2, h3⟩ := run_append_ev o.type h vx k v hs hb
  unfold Oper.wp
  simp [execOp, ho, resolve, invoke, builtin, hsv, hxv, hrun, Result.andThen]
  exact hK _ _ (hk a' cap' w' h1 h2 h3)

/-! ### The plain law -/
/-- What is told of a line. -/
def evOf (line : List UInt8) : Int × List UInt8 := if 300 < (trim13 line).length then (2, []) else (1, trim13 line)

/-- What is told of bytes, of which 'cur' stands ahead. -/
def E : List UInt8 → List UInt8 → List (Int × List UInt8)
  | _, [] => []
  | cur, b :: l => if b = 10 then evOf cur :: E [] l else E (cur ++ [b]) l

theorem E_line (cur line rest : List UInt8) (h : ∀ b ∈ line, b ≠ 10) : E cur (line ++ 10 :: rest) = evOf (cur ++ line) :: E [] rest := by
  induction line generalizing cur with
  | nil => simp [E]
  | cons b l ih =>
    have hb := h b (List.mem_cons_self ..)
    rw [List.cons_append, E, if_neg hb, ih _ (fun c hc => h c (List.mem_cons_of_mem _ hc))]
    simp

theorem E_free (cur l R : List UInt8) (h : ∀ b ∈ l, b ≠ 10) : E cur (l ++ R) = E (cur ++ l) R := by
  induction l generalizing cur with
  | nil => simp
  | cons b l ih =>
    have hb := h b (List.mem_cons_self ..)
    rw [List.cons_append, E, if_neg hb, ih _ (fun c hc => h c (List.mem_cons_of_mem _ hc))]
    simp

theorem split10 : ∀ bs : List UInt8, (∀ b ∈ bs, b ≠ 10) ∨ ∃ line rest, bs = line ++ 10 :: rest ∧ ∀ b ∈ line, b ≠ 10
  | [] => .inl (fun _ h => by cases h)
  | b :: l => by
    by_cases hb : b = 10
    · exact .inr ⟨[], l, by simp [hb], fun _ h => by cases h⟩
    · rcases split10 l with h | ⟨line, rest, rfl, h⟩
      · exact .inl (fun c hc => by rcases List.mem_cons.1 hc with rfl | hc; exact hb; exact h c hc)
      · exact .inr ⟨b :: line, rest, rfl, fun c hc => by rcases List.mem_cons.1 hc with rfl | hc; exact hb; exact h c hc⟩

theorem trim13_len (l : List UInt8) : l.length ≤ (trim13 l).length + 1 := by
  unfold trim13
  split
  · simp; omega
  · omega

/-- How the bytes that wait stand to what is yet to be told: R is yet to come, T is all that is told in the end. -/
def Sync (T evs : List (Int × List UInt8)) (bs R : List UInt8) (d : Bool) : Prop :=
  ∃ pre, evs ++ E pre (bs ++ R) = T ∧ ((d = false ∧ pre = []) ∨ (d = true ∧ 302 ≤ pre.length))

theorem Sync.start (b : List UInt8) : Sync (E [] b) [] [] b false := ⟨[], rfl, .inl ⟨rfl, rfl⟩⟩

/-- An event is told. -/
theorem Sync.told {T evs : List (Int × List UInt8)} {bs R : List UInt8} {d : Bool} (h : Sync T evs bs R d) (ho : (step bs (-1) d).ok = true) :
    Sync T (evs ++ [((step bs (-1) d).kind, (step bs (-1) d).data)]) (step bs (-1) d).bs R (step bs (-1) d).dr ∧ (step bs (-1) d).want = -1 ∧ (step bs (-1) d).bs.length < bs.length := by
  obtain ⟨pre, hT, hd⟩ := h
  rcases split10 bs with hf | ⟨line, rest, rfl, hf⟩
  · rw [step_free bs d hf] at ho
    cases ho
  · rw [step_line line rest d hf]
    refine ⟨⟨[], ?_, .inl ⟨rfl, rfl⟩⟩, rfl, by simp; omega⟩
    rw [List.append_assoc, List.cons_append, E_line _ _ _ hf] at hT
    rw [← hT, List.append_assoc]
    congr 1
    rw [List.singleton_append]
    congr 1
    rcases hd with ⟨rfl, rfl⟩ | ⟨rfl, hp⟩
    · simp only [List.nil_append, Bool.false_or, evOf, decide_eq_true_eq]
      split <;> rfl
    · have hl := trim13_len (pre ++ line)
      rw [List.length_append] at hl
      simp only [Bool.true_or, if_true, evOf]
      rw [if_pos (by omega)]

/-- There is none. -/
theorem Sync.none_ {T evs : List (Int × List UInt8)} {bs R : List UInt8} {d : Bool} (h : Sync T evs bs R d) (ho : (step bs (-1) d).ok = false) :
    Sync T evs (step bs (-1) d).bs R (step bs (-1) d).dr ∧ (step bs (-1) d).want = -1 ∧ (step bs (-1) d).bs.length ≤ bs.length ∧ (step bs (-1) d).data = [] ∧ (step bs (-1) d).kind = 0 ∧ (R = [] → evs = T) := by
  obtain ⟨pre, hT, hd⟩ := h
  rcases split10 bs with hf | ⟨line, rest, rfl, hf⟩
  · rw [step_free bs d hf]
    refine ⟨?_, rfl, ?_, rfl, rfl, fun hR => ?_⟩
    · by_cases hl : 301 < bs.length
      · simp only [hl, if_true]
        refine ⟨pre ++ bs, ?_, .inr ⟨rfl, by simp; omega⟩⟩
        rw [List.nil_append, ← E_free _ _ _ hf]
        exact hT
      · simp only [hl, if_false]
        exact ⟨pre, hT, hd⟩
    · split <;> simp
    · subst hR
      rw [E_free _ _ _ hf] at hT
      simpa [E] using hT
  · rw [step_line line rest d hf] at ho
    cases ho

theorem Sync.feed {T evs : List (Int × List UInt8)} {bs X R : List UInt8} {d : Bool} (h : Sync T evs bs (X ++ R) d) : Sync T evs (bs ++ X) R d := by
  obtain ⟨pre, hT, hd⟩ := h
  exact ⟨pre, by rw [List.append_assoc]; exact hT, hd⟩

end Go.Proofs.Ytobafefpkkahjaa

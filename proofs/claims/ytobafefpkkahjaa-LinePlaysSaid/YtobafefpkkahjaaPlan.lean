/- A region that draws its order, walked ONCE in the order of its text: each operation gives the same value in every world that meets S, and S holds behind it; then the order makes no difference. -/
import Derived.OrdersHeld
import Derived.WalkKit
namespace Go.Proofs.Ytobafefpkkahjaa
open Go

section
variable {P : Program} {ops : Array Oper} {Q : Exit → Act → World → Prop} {md : Region.Mode} {S : World → Prop}

/-- What a run comes to: the value v, and S behind it. -/
def Gives (P : Program) (v : Value) (S : World → Prop) : Result Next → Prop
  | .ok (.value u) w' => u = v ∧ S w'
  | .ok .skip w' => v = undef ∧ S w'
  | .ok (.enter f args) w' => Calls P f args w' fun e w'' => e = .returned v ∧ S w''
  | _ => False

def Steady (P : Program) (ops : Array Oper) (S : World → Prop) (o : Oper) (v : Value) (a : Act) : Prop :=
  (Region.wanted o (yielded ops a.tmps) = true ∧ ∀ w, S w → Gives P v S ((execOp a.eval o).run P w)) ∨
  (Region.wanted o (yielded ops a.tmps) = false ∧ v = undef)

theorem Steady.of_same {o : Oper} {v : Value} {a a' : Act} (hy : Steady P ops S o v a) (he : execOp a'.eval o = execOp a.eval o)
    (hw : Region.wanted o (yielded ops a'.tmps) = Region.wanted o (yielded ops a.tmps)) : Steady P ops S o v a' := by
  unfold Steady at *
  rw [he, hw]
  exact hy

theorem Steady.wpOp {i : Nat} {o : Oper} {v : Value} {a : Act} (hi : ops[i]? = some o) (hy : Steady P ops S o v a)
    {K : Act → World → Prop} {w : World} (hS : S w) (h : ∀ w', S w' → K (a.put o.dst v) w') : wpOp P ops Q i K a w := by
  unfold Go.wpOp
  simp only [hi]
  rcases hy with ⟨hw, hv⟩ | ⟨hw, rfl⟩
  · simp only [hw, if_true]
    refine .inl ?_
    have hg := hv w hS
    unfold Oper.wp
    generalize (execOp a.eval o).run P w = r at *
    cases r with
    | ok n w' =>
      cases n <;> simp only [Gives] at hg <;> simp only [Oper.upon]
      case value u => obtain ⟨rfl, hs⟩ := hg; exact h _ hs
      case skip => obtain ⟨rfl, hs⟩ := hg; exact h _ hs
      case enter f args =>
        refine Calls.mono hg fun e w'' he => ?_
        obtain ⟨rfl, hs⟩ := he
        exact h _ hs
    | halt x w' => simp only [Gives] at hg
  · simp only [hw, Bool.false_eq_true, if_false]; exact h _ hS

/-- The operations 'is' are taken one behind the other; what is left goes as it goes. -/
def Plan (P : Program) (md : Region.Mode) (ops : Array Oper) (Q : Exit → Act → World → Prop) (S : World → Prop) (n : Nat) : List Nat → Array Bool → Act → Prop
  | [], listed, a => ∀ w, S w → wpAny P md ops Q n listed a w
  | i :: is, listed, a => ∃ oi v, ops[i]? = some oi ∧ (Region.ready md ops listed).contains i = true ∧ Region.free md ops listed i = true ∧ Steady P ops S oi v a ∧ Plan P md ops Q S n is (listed.setIfInBounds i true) (a.put oi.dst v)

theorem free_more {i j : Nat} {listed : Array Bool} (hne : j ≠ i) (h : Region.free md ops listed i = true) : Region.free md ops (listed.setIfInBounds j true) i = true := by
  unfold Region.free at *
  cases hi : ops[i]? with
  | none => rw [hi] at h; exact h
  | some oi =>
    rw [hi] at h
    simp only [List.all_eq_true, List.mem_range] at h ⊢
    intro k hk
    have := h k hk
    by_cases hkj : k = j
    · subst hkj
      cases ho : ops[k]? with
      | none => simp
      | some ok =>
        rw [ho] at this
        simp only [Bool.or_eq_true] at this ⊢
        rcases this with (h1 | h2) | h3
        · exact .inl (.inl h1)
        · refine .inl (.inr ?_)
          rcases Nat.lt_or_ge k listed.size with h' | h'
          · simp [h']
          · simp
        · exact .inr h3
    · rw [getD_set_ne true (fun e => hkj e.symm)]
      exact this

theorem mem_contains {i : Nat} {l : List Nat} : l.contains i = true ↔ i ∈ l := by simp

/-- Whichever of the planned ones is ready may be taken first. -/
theorem Plan.swap (hs : Region.noSelect ops = true) {n : Nat} : ∀ (is : List Nat) (listed : Array Bool) (a : Act) (j : Nat), is.Nodup → Plan P md ops Q S n is listed a → j ∈ is → j ∈ Region.ready md ops listed →
    ∃ oj v, ops[j]? = some oj ∧ Steady P ops S oj v a ∧ Plan P md ops Q S n (is.erase j) (listed.setIfInBounds j true) (a.put oj.dst v)
  | [], _, _, _, _, _, hj, _ => by cases hj
  | i :: is, listed, a, j, hnd, h, hj, hr => by
    obtain ⟨oi, v, hi, hri, hf, hst, hp⟩ := h
    by_cases hij : j = i
    · subst hij
      exact ⟨oi, v, hi, hst, by simpa using hp⟩
    · have hj' : j ∈ is := by simpa [hij] using hj
      have hnd' := List.nodup_cons.1 hnd
      obtain ⟨oj, u, hoj, hsj, hpj⟩ := Plan.swap hs is (listed.setIfInBounds i true) (a.put oi.dst v) j hnd'.2 hp hj' (ready_mono hr hij)
      obtain ⟨hjun, oj', hoj', hall⟩ := mem_ready.1 hr
      rw [hoj] at hoj'
      cases hoj'
      have hnot : ∀ e ∈ oj.after, Region.binds md e = true → e.on ≠ i := fun e he hb heq => by
        have h1 := hall e he hb
        have h0 := (mem_ready.1 (mem_contains.1 hri)).1
        rw [heq] at h1
        rcases Nat.lt_or_ge i listed.size with h' | h'
        · simp [h'] at h0 h1; rw [h0] at h1; cases h1
        · simp [Array.getElem?_eq_none h'] at h1
      have hap := Region.free_spec hi hf j oj hoj hij hjun hnot
      obtain ⟨h1, h2, h3⟩ := Oper.apart_spec hap
      have hsel := Region.noSelect_spec hs
      refine ⟨oj, u, hoj, hsj.of_same (execOp_put oj (fun cs b => hsel j oj cs b hoj) a oi.dst v h1).symm (wanted_put oj a oi.dst v h1).symm, ?_⟩
      have he : (i :: is).erase j = i :: is.erase j := by rw [List.erase_cons_tail]; simpa using fun e => hij e.symm
      rw [he]
      refine ⟨oi, v, hi, ?_, free_more hij hf, hst.of_same (execOp_put oi (fun cs b => hsel i oi cs b hi) a oj.dst u h3) (wanted_put oi a oj.dst u h3), ?_⟩
      · exact mem_contains.2 (ready_mono (mem_contains.1 hri) (fun e => hij e.symm))
      · rw [Array.setIfInBounds_comm _ _ hij, ← Act.put_comm a v u h2]
        exact hpj

/-- Those that are not planned wait for each of the planned ones. -/
def waits (md : Region.Mode) (ops : Array Oper) (is : List Nat) : Bool :=
  (List.range ops.size).all fun r => is.contains r || match ops[r]? with
    | some o => is.all fun i => o.after.any fun e => Region.binds md e && e.on == i
    | none => true

theorem Plan.any (hs : Region.noSelect ops = true) {n : Nat} {all : List Nat} (hw : waits md ops all = true) : ∀ (m : Nat) (is : List Nat) (listed : Array Bool) (a : Act), is.length = m → is.Nodup → (∀ i ∈ is, i ∈ all) →
    (∀ r, r ∈ all → r ∉ is → listed.getD r true = true) → (∀ i ∈ is, listed.getD i true = false) → Plan P md ops Q S n is listed a → ∀ w, S w → wpAny P md ops Q (m + n) listed a w
  | 0, is, listed, a, hm, _, _, _, _, h, w, hS => by
    have := List.eq_nil_of_length_eq_zero hm
    subst this
    rw [Nat.zero_add]
    exact h w hS
  | m + 1, [], _, _, hm, _, _, _, _, _, _, _ => by cases hm
  | m + 1, i :: is, listed, a, hm, hnd, hsub, hl, hun, h, w, hS => by
    have hri : i ∈ Region.ready md ops listed := by obtain ⟨_, _, _, hri, _⟩ := h; exact mem_contains.1 hri
    rw [Nat.add_right_comm]
    refine ⟨fun h0 => (by rw [h0] at hri; cases hri), fun j hj => ?_⟩
    have hmem : j ∈ i :: is := by
      apply Classical.byContradiction
      intro hno
      obtain ⟨hjun, oj, hoj, hall⟩ := mem_ready.1 hj
      by_cases hja : j ∈ all
      · rw [hl j hja hno] at hjun; cases hjun
      · have hsz := (Array.getElem?_eq_some_iff.1 hoj).1
        unfold waits at hw
        simp only [List.all_eq_true, List.mem_range] at hw
        have h1 := hw j hsz
        rw [hoj] at h1
        simp only [Bool.or_eq_true, mem_contains, hja, false_or, List.all_eq_true] at h1
        have h2 := h1 i (hsub i (by simp))
        obtain ⟨e, he, hb⟩ := Array.any_eq_true'.1 h2
        simp only [Bool.and_eq_true, beq_iff_eq] at hb
        have h3 := hall e he hb.1
        have h4 := hun i (by simp)
        rw [hb.2] at h3
        rcases Nat.lt_or_ge i listed.size with h' | h'
        · simp [h'] at h3 h4; rw [h4] at h3; cases h3
        · simp [Array.getElem?_eq_none h'] at h3
    obtain ⟨oj, v, hoj, hst, hp⟩ := Plan.swap hs _ listed a j hnd h hmem hj
    refine hst.wpOp hoj hS fun w' hS' => Plan.any hs hw m ((i :: is).erase j) (listed.setIfInBounds j true) _ ?_ (hnd.erase j) ?_ ?_ ?_ hp w' hS'
    · rw [List.length_erase_of_mem hmem]; omega
    · exact fun k hk => hsub k (List.mem_of_mem_erase hk)
    · intro r hr hno
      by_cases hrj : r = j
      · subst hrj
        rcases Nat.lt_or_ge r listed.size with h' | h'
        · simp [h']
        · simp
      · rw [getD_set_ne true (fun e => hrj e.symm)]
        exact hl r hr fun hk => hno ((List.mem_erase_of_ne hrj).2 hk)
    · intro k hk
      have hkj : k ≠ j := fun e => by subst e; exact (List.Nodup.not_mem_erase hnd) hk
      rw [getD_set_ne true (fun e => hkj e.symm)]
      exact hun k (List.mem_of_mem_erase hk)

/-- The first i of n are listed. -/
def lst (n i : Nat) : Array Bool := (List.replicate i true ++ List.replicate (n - i) false).toArray
theorem lst_set {n i : Nat} (h : i < n) : (lst n i).setIfInBounds i true = lst n (i + 1) := by
  apply Array.ext
  · simp [lst]; omega
  · intro k h1 h2
    simp only [lst, List.setIfInBounds_toArray, List.getElem_toArray]
    rw [List.getElem_set]
    by_cases hk : i = k
    · subst hk; rw [if_pos rfl, List.getElem_append_left (by simp)]; simp
    · rw [if_neg hk]
      by_cases hlt : k < i
      · rw [List.getElem_append_left (by simp; omega), List.getElem_append_left (by simp; omega)]; simp
      · rw [List.getElem_append_right (by simp; omega), List.getElem_append_right (by simp; omega)]; simp

/-- The operations from number i on are taken in the order of the text, up to the last n; 'rest': what is left of the list. -/
def PlanT (P : Program) (md : Region.Mode) (ops : Array Oper) (Q : Exit → Act → World → Prop) (S : World → Prop) (n i : Nat) (rest : List Oper) (a : Act) : Prop :=
  ops.toList.drop i = rest → Plan P md ops Q S n (List.range' i (ops.size - n - i)) (lst ops.size i) a

/-- THE BEGINNING: n: how many operations, the last ones, are not planned (0 or 1). -/
theorem wp_region_plan {id : Nat} {l : List Oper} {a : Act} {w : World} (n : Nat) (S : World → Prop) (hm : P.follows .mixedOrders = true) (hs : Region.noSelect l.toArray = true)
    (hw : (waits .any l.toArray (List.range' 0 (l.toArray.size - n)) && decide (n ≤ l.toArray.size)) = true) (hS : S w.drew) (h : PlanT P .any l.toArray Q S n 0 l a) : (Code.region id l.toArray true).wp P Q a w := by
  refine wp_region_any hm ?_
  simp only [Bool.and_eq_true, decide_eq_true_eq] at hw
  have h1 := h (by simp)
  have e : l.toArray.size = (List.range' 0 (l.toArray.size - n)).length + n := by rw [List.length_range']; omega
  have e2 : lst l.toArray.size 0 = Array.replicate l.toArray.size false := by simp [lst]
  rw [Nat.sub_zero, e2] at h1
  have := Plan.any hs hw.1 _ _ (Array.replicate l.toArray.size false) a rfl List.nodup_range' (fun _ h => h) (fun r h1 h2 => absurd h1 h2) (fun i hi => ?_) h1 _ hS
  · rw [← e] at this; exact this
  · have := List.mem_range'_1.1 hi
    have : i < l.toArray.size := by omega
    simp only [Array.getD_eq_getD_getElem?]
    rw [Array.getElem?_eq_getElem (by simpa using this)]
    simp

/-! ### The moves -/
theorem PlanT.take {n i : Nat} {rest : List Oper} {a : Act} {oi : Oper} {v : Value}
    (hc : ((Region.ready md ops (lst ops.size i)).contains i && Region.free md ops (lst ops.size i) i && decide (i + n < ops.size)) = true)
    (hst : Steady P ops S oi v a) (h : PlanT P md ops Q S n (i + 1) rest (a.put oi.dst v)) : PlanT P md ops Q S n i (oi :: rest) a := by
  intro hd
  simp only [Bool.and_eq_true, decide_eq_true_eq] at hc
  obtain ⟨⟨h1, h2⟩, h3⟩ := hc
  have hoi : ops[i]? = some oi := by
    have := congrArg List.head? hd
    rw [List.head?_drop] at this
    simpa using this
  have hrest : ops.toList.drop (i + 1) = rest := by
    have := congrArg List.tail hd
    simpa using this
  have e : ops.size - n - i = (ops.size - n - (i + 1)) + 1 := by omega
  rw [e, List.range'_succ]
  exact ⟨oi, v, hoi, h1, h2, hst, by rw [lst_set (by omega)]; exact h hrest⟩

/-- An operation that leaves the world as it is. -/
theorem Steady.still {o : Oper} {v : Value} {a : Act} (hw : Region.wanted o (yielded ops a.tmps) = true) (h : ∀ w, S w → (execOp a.eval o).run P w = .ok (.value v) w) : Steady P ops S o v a :=
  .inl ⟨hw, fun w hS => by rw [h w hS]; exact ⟨rfl, hS⟩⟩
theorem Steady.off {o : Oper} {a : Act} (hw : Region.wanted o (yielded ops a.tmps) = false) : Steady P ops S o undef a := .inr ⟨hw, rfl⟩
/-- An operation that is no call. -/
theorem Steady.turns {o : Oper} {v : Value} {a : Act} (hw : Region.wanted o (yielded ops a.tmps) = true) (h : ∀ w, S w → ∃ w', (execOp a.eval o).run P w = .ok (.value v) w' ∧ S w') : Steady P ops S o v a :=
  .inl ⟨hw, fun w hS => by obtain ⟨w', e, h'⟩ := h w hS; rw [e]; exact ⟨rfl, h'⟩⟩
theorem Steady.skips {o : Oper} {a : Act} (hw : Region.wanted o (yielded ops a.tmps) = true) (h : ∀ w, S w → ∃ w', (execOp a.eval o).run P w = .ok .skip w' ∧ S w') : Steady P ops S o undef a :=
  .inl ⟨hw, fun w hS => by obtain ⟨w', e, h'⟩ := h w hS; rw [e]; exact ⟨rfl, h'⟩⟩
/-- A call. -/
theorem Steady.calls {o : Oper} {v : Value} {a : Act} {f : FuncId} {args : Array Value} (hw : Region.wanted o (yielded ops a.tmps) = true) (h : ∀ w, S w → (execOp a.eval o).run P w = .ok (.enter f args) w ∧ Calls P f args w fun e w' => e = .returned v ∧ S w') : Steady P ops S o v a :=
  .inl ⟨hw, fun w hS => by obtain ⟨e, h'⟩ := h w hS; rw [e]; exact h'⟩
/-- All are taken. -/
theorem PlanT.done {i : Nat} {a : Act} (hr : (ops.size - 0 - i == 0 && (Region.ready md ops (lst ops.size i)).isEmpty) = true) (h : ∀ w, S w → Q .normal a w) : PlanT P md ops Q S 0 i [] a := fun _ => by
  simp only [Bool.and_eq_true, beq_iff_eq, List.isEmpty_iff] at hr
  rw [hr.1]
  exact fun w hS => wpAny_done hr.2 (h w hS) 0

/-- One is left. -/
theorem PlanT.last {i : Nat} {a : Act} {oi : Oper} (hr : (ops.size - 1 - i == 0 && Region.ready md ops (lst ops.size i) == [i] && (Region.ready md ops (lst ops.size (i + 1))).isEmpty && decide (i < ops.size)) = true) (hw : Region.wanted oi (yielded ops a.tmps) = true)
    (h : ∀ w, S w → ∀ K : Act → World → Prop, RowKit.Hid (∀ a w, Q .normal a w → K a w) → Oper.wp P oi a w K Q) : PlanT P md ops Q S 1 i [oi] a := fun hd => by
  simp only [Bool.and_eq_true, beq_iff_eq, List.isEmpty_iff, decide_eq_true_eq] at hr
  obtain ⟨⟨⟨h1, h2⟩, h3⟩, h4⟩ := hr
  rw [h1]
  have hoi : ops[i]? = some oi := by
    have := congrArg List.head? hd
    rw [List.head?_drop] at this
    simpa using this
  intro w hS
  refine wpAny_all h2 (by simp) fun j hj => ?_
  simp only [List.mem_singleton] at hj
  subst hj
  unfold Go.wpOp
  simp only [hoi, hw, if_true]
  exact .inl (h w hS _ fun a w hQ => wpAny_done (by rw [lst_set h4]; exact h3) hQ 0)
end
end Go.Proofs.Ytobafefpkkahjaa

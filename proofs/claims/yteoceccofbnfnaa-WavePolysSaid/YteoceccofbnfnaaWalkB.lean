/- The walks of the law's helpers: the held numbers, the reference's sums, products and powers. -/
import Derived.Test.YteoceccofbnfnaaWalkA
import Derived.Laws.AppendOwnNone
namespace Go.Proofs.Yteoceccofbnfnaa
open Go.RowKit

/-- A slice's elements, in memory. -/
def RowOf (w : World) (a : Option Addr) (len : Nat) (zs : List Int) : Prop :=
  0 < len → ∃ b off, a = some ⟨b, off, none⟩ ∧ b < w.heap.size ∧ ∀ j, j < len → w.cell? ⟨b, off + j, none⟩ = some (.int .i64 (zs[j]?.getD 0))

theorem RowOf.below {B : Nat} {w w' : World} {a : Option Addr} {len : Nat} {zs : List Int} (h : RowOf w a len zs) (hb : Below B w w') (hB : w.heap.size ≤ B) : RowOf w' a len zs := by
  intro hl
  obtain ⟨b, off, e, h1, h2⟩ := h hl
  exact ⟨b, off, e, by have := hb.size; omega, fun j hj => (hb.cell (p := ⟨b, off + j, none⟩) (by show b < B; omega)).trans (h2 j hj)⟩

theorem RowOf.of_owns {w : World} {B len : Nat} {v : Value} {zs : List Int} (h : w.ownsRow B 3 1 v len (zs.map (Value.int .i64))) : ∃ a cap, v = .slice a len cap ∧ RowOf w a len zs := by
  rcases h.2 with ⟨rfl, rfl⟩ | ⟨g, cap, cur, rfl, hb, hg, _⟩
  · exact ⟨none, 0, rfl, fun h => absurd h (by decide)⟩
  · refine ⟨_, cap, rfl, fun _ => ⟨g, 0, rfl, (Array.getElem?_eq_some_iff.1 hg).1, fun j hj => ?_⟩⟩
    have hlen : zs.length = len := by have := h.1; simpa using this
    have := h.cells (g := g) rfl j (.int .i64 (zs[j]?.getD 0)) (by rw [List.getElem?_map, List.getElem?_eq_getElem (by omega)]; simp)
    have e : (⟨g, 0, none⟩ : Addr).add j = ⟨g, 0 + j, none⟩ := by unfold Addr.add; split <;> simp_all
    rw [← e]; exact this

theorem World.grownBy_refl (w : World) (row : Option Nat) : w.grownBy w row := ⟨rfl, rfl, rfl, Nat.le_refl _, fun _ _ _ => rfl⟩

theorem one_new (w : World) (x : Value) (t : TypeId) : ∀ j u, [x][j]? = some u → (w.alloc (.cells #[x] t)).cell? ((⟨w.heap.size, 0, none⟩ : Addr).add j) = some u := by
  intro j u hj
  match j, hj with
  | 0, hj => simp at hj; subst hj; simp [Addr.add]

theorem Try.info3 : (Try.prog.info? 3).map (fun i => (i.zero, i.size, i.bytes)) = some (some (.int .i64 0), 1, 8) := by kernel_rfl

/-- The first k numbers, held. -/
def hs (zs : List Int) (k : Nat) : List Int := (List.range k).map fun j => (zs[j]?.getD 0).tmod 1048576

theorem hs_len (zs : List Int) (k : Nat) : (hs zs k).length = k := by simp [hs]
theorem hs_get (zs : List Int) (k j : Nat) (h : j < k) : (hs zs k)[j]?.getD 0 = (zs[j]?.getD 0).tmod 1048576 := by simp [hs, h]
theorem hs_succ (zs : List Int) (k : Nat) : hs zs (k + 1) = hs zs k ++ [(zs[k]?.getD 0).tmod 1048576] := by simp [hs, List.range_succ]
theorem hs_bd (zs : List Int) (k j : Nat) : ((hs zs k)[j]?.getD 0).natAbs < 1048576 := by
  by_cases h : j < k
  · rw [hs_get _ _ _ h]
    rw [Int.natAbs_tmod]
    exact Nat.mod_lt _ (by decide)
  · simp [hs, h]

set_option maxHeartbeats 800000 in
theorem held_own (a : Option Addr) (len cap : Nat) (zs : List Int) (w : World) (hl : len ≤ 200) (ha : RowOf w a len zs) :
    Calls Try.prog 9 #[.slice a len cap] w fun e w' => ∃ v, e = .returned v ∧ w'.ownsRow w.heap.size 3 1 v len ((hs zs len).map (Value.int .i64)) ∧ Below w.heap.size w w' := by
  obtain ⟨i0, hi, hz0, hz1, hz2⟩ := info_parts Try.info3
  have HA := Lib.hid ha
  clear ha
  go_enter Try.func9, Try.ntmps9
  go_wp2
  go_loopw [3, 4] (fun v i wr => ∃ k : Nat, k ≤ len ∧ i = .int .i64 k ∧ wr.ownsRow w.heap.size 3 1 v (hs zs k).length ((hs zs k).map (Value.int .i64)) ∧ Below w.heap.size w wr) (fun _ i _ => len - (intOf i).toNat)
  case atStart => exact ⟨0, Nat.zero_le _, rfl, World.ownsRow_nil _ _ _ _, Below.refl _ _⟩
  case round =>
    obtain ⟨k, hk, rfl, hown, hbel⟩ := hrel
    by_cases hlt : k < len
    · obtain ⟨b, off, rfl, hbb, hc⟩ := HA.out (by omega)
      have hcell : wr.cell? ⟨b, off + k, none⟩ = some (.int .i64 (zs[k]?.getD 0)) := (hbel.cell (p := ⟨b, off + k, none⟩) hbb).trans (hc k hlt)
      have hn := hs_len zs k
      go_wp2_with (at_builtin; refine wpList_append_own _ rfl _ _ 22 rfl w.heap.size 3 i0 (.int .i64 0) 1 8 Try.underlying22 hi hz0 hz1 hz2 rfl (by decide) _ _ _ rfl (hown.alloc _) ⟨wr.heap.size, 0, none⟩ 1 1 [.int .i64 ((zs[k]?.getD 0).tmod 1048576)] rfl rfl ?c1 ?c2 ?c3 ?c4 ?c5 ?_)
      case c1 => exact one_new _ _ _
      case c2 => intro u hu; simp at hu; subst hu; rfl
      case c3 => unfold maxLen; omega
      case c4 => omega
      case c5 => have := hbel.size; simp; omega
      intro v' w1 hown1 hgrow _
      clear hn
      have hown2 : w1.ownsRow w.heap.size 3 1 v' (hs zs (k + 1)).length ((hs zs (k + 1)).map (Value.int .i64)) := by
        rw [hs_len, hs_succ, List.map_append]; exact hown1
      have hbel2 : Below w.heap.size w w1 := (hbel.alloc hbel.size _).grown hgrow (by have := hbel.size; simp; omega) (fun j hj => (hown.lt j hj).1)
      clear hown1 hgrow hown hbel hcell hc HA hi hz0 hz1 hz2
      go_wp2
      go_roundw
      case rel => exact ⟨k + 1, by omega, by go_num, hown2, hbel2⟩
      case measure => simp [intOf]; omega
    · obtain rfl : k = len := by omega
      rw [hs_len] at hown
      have HROW := Lib.hid hown
      clear hown hi hz0 hz1 hz2
      go_wp2
      go_ret
      exact ⟨_, rfl, HROW.out, hbel⟩

theorem held_any (a : Option Addr) (len cap : Nat) (zs : List Int) (w : World) (hl : len ≤ 200) (ha : RowOf w a len zs) :
    Calls Try.prog 9 #[.slice a len cap] w fun e w' => ∃ a' cap', e = .returned (.slice a' len cap') ∧ RowOf w' a' len (hs zs len) ∧ Below w.heap.size w w' :=
  (held_own a len cap zs w hl ha).mono fun e w' ⟨v, he, hown, hb⟩ => by
    obtain ⟨a', cap', rfl, hrow⟩ := RowOf.of_owns hown
    exact ⟨a', cap', he, hrow, hb⟩

/-- A row appended to a row. -/
theorem wpList_append_row {w : World} {ops : Array Oper} {rest : List Oper} {o : Oper} {a : Act} {Q : Exit → Act → World → Prop} (hgd : o.guard = none) (s x : Operand)
    (ho : o.op = .call { callee := .builtin .append, args := #[s, x], argTypes := #[22, 22] }) (base base' : Nat)
    (v : Value) (n : Nat) (xs : List Value) (hs : a.eval s = v) (hown : w.ownsRow base 3 1 v n xs)
    (v2 : Value) (m : Nat) (ys : List Int) (hx : a.eval x = v2) (hown2 : w.ownsRow base' 3 1 v2 m (ys.map (Value.int .i64))) (hnm : n + m ≤ 1000000) (hbase : base ≤ w.heap.size)
    (h : ∀ v' w', w'.ownsRow base 3 1 v' (n + m) (xs ++ ys.map (Value.int .i64)) → w.grownBy w' v.ownBlock → wpList Try.prog ops Q rest (a.put o.dst v') w') : wpList Try.prog ops Q (o :: rest) a w := by
  obtain ⟨i0, hi, hz0, hz1, hz2⟩ := info_parts Try.info3
  have h2 := hown2
  rcases h2.2 with ⟨rfl, rfl⟩ | ⟨g, cap, cur, rfl, hb, hg, _⟩
  · have hy : ys = [] := by have := h2.1; simpa using this
    subst hy
    refine wpList_append_own_none hgd s x 22 ho base 3 i0 1 Try.underlying22 hi v n xs hs hown hx (h v w ?_ (World.grownBy_refl w _))
    simpa using hown
  · exact wpList_append_own w hgd s x 22 ho base 3 i0 (.int .i64 0) 1 8 Try.underlying22 hi hz0 hz1 hz2 rfl (by decide) v n xs hs hown ⟨g, 0, none⟩ m cap _ hx h2.1 (h2.cells (g := g) rfl)
      (fun u hu => by obtain ⟨_, _, rfl⟩ := List.mem_map.1 hu; rfl) (by unfold maxLen; omega) (by omega) hbase fun v' w' a b _ => h v' w' a b

end Go.Proofs.Yteoceccofbnfnaa

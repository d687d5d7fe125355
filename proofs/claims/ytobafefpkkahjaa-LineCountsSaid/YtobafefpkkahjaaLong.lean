/- LineLong: the walk. -/
import Derived.Test.YtobafefpkkahjaaAll
import Derived.Test.YtobafefpkkahjaaNothing
namespace Go.Proofs.Ytobafefpkkahjaa
open Go.RowKit

def X8 (n : Nat) : List UInt8 := List.replicate n 120
@[simp] theorem X8_length (n : Nat) : (X8 n).length = n := by simp [X8]
/-- k bytes are filled, of n. -/
def F8 (k n : Nat) : List UInt8 := X8 k ++ Z8 (n - k)
theorem F8_length (k n : Nat) (h : k ≤ n) : (F8 k n).length = n := by simp [F8]; omega
theorem F8_zero (n : Nat) : F8 0 n = Z8 n := by simp [F8, X8]
theorem F8_all (n : Nat) : F8 n n = X8 n := by simp [F8, Z8]
theorem F8_set (k n : Nat) (h : k < n) : (C8 (F8 k n)).toArray.setIfInBounds k (.int .u8 120) = (C8 (F8 (k + 1) n)).toArray := by
  apply Array.ext'
  rw [List.setIfInBounds_toArray]
  simp only [C8, N8, F8, X8, Z8]
  apply List.ext_getElem
  · simp; omega
  · intro i h1 h2
    simp only [List.getElem_set, List.getElem_map, List.getElem_append, List.getElem_replicate]
    by_cases hi : k = i
    · subst hi; simp
    · simp only [hi, if_false, List.length_replicate]
      by_cases h3 : i < k
      · simp [h3, Nat.lt_succ_of_lt h3]
      · have h4 : ¬ i < k + 1 := by omega
        simp [h3, h4]

theorem F8_set' (k n : Nat) (h : k < n) : (C8 (F8 k n)).set k (.int .u8 120) = C8 (F8 (k + 1) n) := by
  have := congrArg Array.toList (F8_set k n h)
  simpa using this

theorem X8_free (n : Nat) (c : UInt8) (hc : c ≠ 120) : ∀ b ∈ X8 n, b ≠ c := fun b hb => by
  have := List.eq_of_mem_replicate hb
  rw [this]; exact fun h => hc h.symm

theorem trim13_end (l : List UInt8) : trim13 (l ++ [13]) = l := by
  unfold trim13
  have : Lib.hasSuffix (l ++ [13]) [13] = true := by
    unfold Lib.hasSuffix
    simp
  rw [if_pos this]
  simp

theorem E_long (line : List UInt8) (h : ∀ b ∈ line, b ≠ 10) : E [] (line ++ [10, 121, 10]) = [evOf line, (1, [121])] := by
  rw [E_line [] line [121, 10] h, List.nil_append]
  rfl

theorem Al.below {w0 w1 w : World} {L : Nat} {a a' : Option Addr} {cap cap' : Nat} {bs bs' : List UInt8} {want : Int} {d d' : Bool} {ar : Option Addr} {n rcap : Nat} {cs : List Value} {evs : List (Int × List UInt8)}
    (h : Own w0 w1 L a' cap' bs' want d') (hl : Al w1 w L a cap bs d ar n rcap cs evs) : Below w0.heap.size w0 w :=
  h.bel.trans (hl.t.below h.bel.size (fun i hi e => by have := h.lo; omega))

/-- The cells of an event. -/
theorem Al.cells {w1 w : World} {L : Nat} {a : Option Addr} {cap : Nat} {bs : List UInt8} {d : Bool} {g off : Nat} {n rcap : Nat} {cs : List Value} {evs : List (Int × List UInt8)}
    (h : Al w1 w L a cap bs d (some ⟨g, off, none⟩) n rcap cs evs) (j : Nat) (e : Int × List UInt8) (hj : evs[j]? = some e) :
    ∃ r rc, w.cell? ⟨g, off + 2 * j, none⟩ = some (.int .i64 e.1) ∧ w.cell? ⟨g, off + (2 * j + 1), none⟩ = some (.slice r e.2.length rc) ∧ Rd w r e.2 := by
  obtain ⟨r, rc, h1, h2, h3⟩ := h.ev j e hj
  obtain ⟨g', off', e', _, hc, _⟩ := h.row.at_ _ rfl
  cases e'
  refine ⟨r, rc, hc _ _ h1, hc _ _ h2, fun hl => ?_⟩
  obtain ⟨g, off, e, _, hg, _, _, hc⟩ := h3 hl
  exact ⟨g, off, e, hg, hc⟩

theorem Al.some_ {w1 w : World} {L : Nat} {a : Option Addr} {cap : Nat} {bs : List UInt8} {d : Bool} {ar : Option Addr} {n rcap : Nat} {cs : List Value} {evs : List (Int × List UInt8)}
    (h : Al w1 w L a cap bs d ar n rcap cs evs) (hn : 0 < n) : ∃ g off, ar = some ⟨g, off, none⟩ := by
  cases har : ar with
  | none => have := h.row.nil har; have := h.row.le; omega
  | some ad =>
    obtain ⟨g, off, e, _⟩ := h.row.at_ ad har
    exact ⟨g, off, by rw [e]⟩

theorem long_out (n : Int) (cr : Bool) (c : Option Addr) (clen ccap : Nat) (w : World) (h : n < 0 ∨ 1000 < n ∨ 60 < clen) (hl : clen ≤ 9223372036854775807) :
    Calls Try.prog 4 #[.int .i64 n, .bool cr, .slice c clen ccap] w fun e w' => e = .returned (.bool true) ∧ Below w.heap.size w w' := by
  by_cases h1 : n < 0
  · clear h
    go_enter Try.func4, Try.ntmps4
    go_wp2
    go_ret
    exact ⟨rfl, Below.refl _ _⟩
  · by_cases h2 : 1000 < n
    · clear h
      go_enter Try.func4, Try.ntmps4
      go_wp2
      go_ret
      exact ⟨rfl, Below.refl _ _⟩
    · have h3 : 60 < clen := by omega
      clear h
      go_enter Try.func4, Try.ntmps4
      go_wp2
      go_ret
      exact ⟨rfl, Below.refl _ _⟩

end Go.Proofs.Ytobafefpkkahjaa

/- A script of acts that came in; 'long'. -/
import Derived.Test.YtobafefpkkahjaaRefD
import Derived.IntWalk
namespace Go.Proofs.Ytobafefpkkahjaa
open Go.RowKit

/-- One act: its kind, its bytes, its number. -/
structure Job where
  kind : Int
  a : Option Addr
  bs : List UInt8
  cap : Nat
  n : Int

/-- The slice at a holds the acts js. -/
def Script (w : World) (a : Option Addr) (js : List Job) : Prop :=
  (∀ j ∈ js, Rd w j.a j.bs ∧ j.bs.length ≤ 140737488355328) ∧
  (0 < js.length → ∃ g off, a = some ⟨g, off, none⟩ ∧ g < w.heap.size ∧ ∀ (k : Nat) j, js[k]? = some j →
    w.cell? ⟨g, off + k * 3, none⟩ = some (.int .i64 j.kind) ∧ w.cell? ⟨g, off + k * 3 + 1, none⟩ = some (.slice j.a j.bs.length j.cap) ∧ w.cell? ⟨g, off + k * 3 + 2, none⟩ = some (.int .i64 j.n))

theorem Script.grow {w w' : World} {a : Option Addr} {js : List Job} (h : Script w a js) (hb : Below w.heap.size w w') : Script w' a js := by
  have ht : Touch w w' (fun _ => False) := Touch.grows hb _
  refine ⟨fun j hj => ⟨(h.1 j hj).1.touch ht (fun ⟨_, _, h⟩ => h), (h.1 j hj).2⟩, fun hl => ?_⟩
  obtain ⟨g, off, e, hg, hc⟩ := h.2 hl
  refine ⟨g, off, e, Nat.lt_of_lt_of_le hg ht.size, fun k j hj => ?_⟩
  obtain ⟨h1, h2, h3⟩ := hc k j hj
  exact ⟨(ht.cell (a := ⟨g, off + k * 3, none⟩) hg (fun h => h)).trans h1, (ht.cell (a := ⟨g, off + k * 3 + 1, none⟩) hg (fun h => h)).trans h2, (ht.cell (a := ⟨g, off + k * 3 + 2, none⟩) hg (fun h => h)).trans h3⟩

/-- What 'long' says. -/
def LongSaid (js : List Job) (w : World) (e : Ending) (w' : World) : Prop :=
  ∃ b : Bool, e = .returned (.bool b) ∧ w = w' ∧ (b = false → ∀ (k : Nat) j, js[k]? = some j → k < 100 → j.bs.length ≤ 12000)

theorem long_any (a : Option Addr) (cap : Nat) (js : List Job) (w : World) (hs : Script w a js) (hlen : js.length ≤ 9223372036854775806) :
    Calls Try.prog 14 #[.slice a js.length cap] w (LongSaid js w) := by
  have HS := Lib.hid hs
  clear hs
  go_enter Try.func14, Try.ntmps14
  go_wp2_with fail
  go_loopw [3, 4] (fun s i wr => ∃ k t : Nat, k ≤ js.length ∧ k ≤ 100 ∧ t ≤ 12000 ∧ s = .int .i64 t ∧ i = .int .i64 k ∧ wr = w ∧ Hid (∀ (q : Nat) j, q < k → js[q]? = some j → j.bs.length ≤ 12000)) (fun _ i _ => 100 - (intOf i).toNat)
  case atStart => exact ⟨0, 0, Nat.zero_le _, by omega, by omega, rfl, rfl, rfl, fun q j h => absurd h (by omega)⟩
  case round =>
    obtain ⟨k, t, hk, hk1, ht, rfl, rfl, rfl, hq⟩ := hrel
    by_cases hlt : k < js.length
    · by_cases hlt2 : k < 100
      · obtain ⟨j, hj⟩ : ∃ j, js[k]? = some j := ⟨_, List.getElem?_eq_getElem hlt⟩
        obtain ⟨g, off, rfl, _, hc⟩ := HS.out.2 (by omega)
        obtain ⟨h1, h2, h3⟩ := hc k j hj
        have hlen2 := (HS.out.1 j (List.mem_of_getElem? hj)).2
        have haddr := addr_add g off (k * 3)
        have HJ := Lib.hid hj
        clear hj hc h1 h3
        generalize hn : j.bs.length = n at h2 hlen2
        have HN := Lib.hid hn
        clear hn
        have hw1 : IntKind.i64.wrap ((t : Int) + 1) = (t : Int) + 1 := IntWalk.i64_in _ (by omega)
        have hw2 : IntKind.i64.wrap ((t : Int) + 1 + (n : Int)) = (t : Int) + 1 + (n : Int) := IntWalk.i64_in _ (by omega)
        by_cases hbig : 12000 < t + 1 + n
        · have hb2 : (12000 : Int) < (t : Int) + 1 + (n : Int) := by omega
          clear hbig
          go_wp2
          go_ret
          exact ⟨true, rfl, rfl, fun h => by cases h⟩
        · have hb2 : ¬ (12000 : Int) < (t : Int) + 1 + (n : Int) := by omega
          have hb3 : t + 1 + n ≤ 12000 := by omega
          clear hbig
          go_wp2
          clear hw1 hw2
          go_round
          case rel =>
            refine ⟨k + 1, t + 1 + n, by omega, by omega, hb3, by go_num, by go_num, trivial, fun q j' hq1 hj' => ?_⟩
            rcases Nat.lt_succ_iff_lt_or_eq.1 hq1 with h | h
            · exact hq.out q j' h hj'
            · subst h
              rw [HJ.out] at hj'
              cases hj'
              rw [HN.out]; omega
          case measure => simp [intOf]; omega
      · have hge : ¬ (k : Int) < 100 := by omega
        go_wp2
        go_ret
        exact ⟨false, rfl, rfl, fun _ q j hj hq1 => hq.out q j (by omega) hj⟩
    · have hge : ¬ (k : Int) < (js.length : Int) := by omega
      go_wp2
      go_ret
      exact ⟨false, rfl, rfl, fun _ q j hj hq1 => hq.out q j (by have := (List.getElem?_eq_some_iff.1 hj).1; omega) hj⟩

end Go.Proofs.Ytobafefpkkahjaa

/- The given statement LinePlays holds: of every script of acts each event and answer of the program's Lines is the reference's, and as many bytes wait. For every input; no condition. -/
import Derived.Test.YtobafefpkkahjaaRows
import Derived.Test.YtobafefpkkahjaaPlays
import Derived.WalkKit
import Derived.ProofKit
import Derived.OpenShut
import Derived.ShutString
import Derived.ChangeOld
import Derived.SizedLaws
import Derived.Deep.Slices
import Derived.Deep.Strs
import Derived.Below
namespace Go.Proofs.Ytobafefpkkahjaa.linePlays
open Go.ChangeShapes Go.WideShapes Go.ChangeAt Go.RowKit Go.Deep
set_option linter.unusedVariables false

theorem own : ownKnob Try.prog.godebug = none := by kernel_rfl
theorem laidOut : laidOutB Try.prog = true := by kernel_rfl
theorem cells41 : Try.prog.cellsOf 41 = 3 := by kernel_rfl
theorem cells3 : Try.prog.cellsOf 3 = 1 := by kernel_rfl
theorem cells22 : Try.prog.cellsOf 22 = 1 := by kernel_rfl
theorem bytes41 : Try.prog.bytesOf 41 = 40 := by kernel_rfl
theorem bytes5 : Try.prog.bytesOf 5 = 1 := by kernel_rfl

theorem weightsAll_mem {H : Type} {P : Program} {e : TypeId} : ∀ {ds : List (DataW H)} {d : DataW H}, d ∈ ds → ∀ n ∈ d.weights P e, n ∈ DataW.weightsAll P e ds
  | x :: ds, d, hd, n, hn => by
    simp only [DataW.weightsAll, List.mem_append]
    rcases List.mem_cons.1 hd with rfl | hd
    · exact .inl hn
    · exact .inr (weightsAll_mem hd n hn)

instance : Inhabited Job := ⟨⟨0, none, [], 0, 0⟩⟩

/-- One act, from its three cells. -/
theorem open_act {H : Type} {enc : TypeId × Value → H} {W : World} {n : Nat} {cs : List Value} {y : DataW H × List MemPlace} (h : DataW.trod enc Try.prog W 0 (fun _ => true) true n 41 cs = some y)
    (hz : ∀ m ∈ y.1.weights Try.prog 41, m ≤ reachBytes) : ∃ j : Job, cs = [.int .i64 j.kind, .slice j.a j.bs.length j.cap, .int .i64 j.n] ∧ Rd W j.a j.bs ∧ j.bs.length ≤ 140737488355328 := by
  obtain ⟨y0, y1, y2, m, rfl, hl, t0, t1, t2⟩ := trod_struct3 Try.underlying41 h
  rw [cells41] at hl
  match cs, hl with
  | [c0, c1, c2], _ =>
    simp only [cells3, cells22, List.drop, List.take] at t0 t1 t2
    obtain ⟨k, hk, _, _⟩ := DataW.trod_int Try.underlying3 t0
    obtain ⟨q, hq, _, _⟩ := DataW.trod_int Try.underlying3 t2
    simp only [List.cons.injEq, and_true] at hk hq
    subst hk hq
    rcases open_ints Try.underlying22 Try.underlying5 (by kernel_rfl) t1 with ⟨hcs, _⟩ | ⟨x, l, c, zs, hcs, _, hlc, hm, hzl, hy1, hcell, hwz⟩
    · simp only [List.cons.injEq, and_true] at hcs
      subst hcs
      exact ⟨⟨k, none, [], 0, q⟩, rfl, Rd.nil _ _, by simp⟩
    · simp only [List.cons.injEq, and_true] at hcs
      subst hcs
      simp only [if_true] at hzl
      obtain ⟨bs, hlen, hr⟩ := rd_of_row (len := l) (by omega) hcell hwz
      refine ⟨⟨k, some x, bs, c, q⟩, by simp [hlen], hr, ?_⟩
      have hw : (zs.take l).length + (zs.drop l).length ≤ reachBytes := by
        refine hz _ ?_
        simp only [DataW.weights, Try.underlying41]
        simp [DataW.weightsEach, hy1, DataW.weights, Try.underlying22, bytes5, lits]
      simp only [List.length_take, List.length_drop] at hw
      have := reachBytes_lt
      show bs.length ≤ _
      omega

/-- The script that came in. -/
theorem open_script {H : Type} {enc : TypeId × Value → H} {W : World} {a : Option Addr} {len cap : Nat} {d : DataW H} {ps : List MemPlace} (h : DataW.Trod enc Try.prog W 0 (fun _ => true) true 35 (.slice a len cap) d ps)
    (hz : ∀ m ∈ d.weights Try.prog 35, m ≤ reachBytes) : ∃ js : List Job, js.length = len ∧ Script W a js ∧ js.length ≤ 9223372036854775806 := by
  obtain ⟨fuel, hf⟩ := h
  rcases open_slice Try.underlying35 hf with ⟨hcs, _⟩ | ⟨x, l, c, m, n, D, Pl, hcs, _, hl, hm, hmm, hx, hel⟩
  · simp [Value.cells] at hcs
    obtain ⟨rfl, rfl, rfl⟩ := hcs
    exact ⟨[], rfl, ⟨fun j hj => by simp at hj, fun h => absurd h (by simp)⟩, by simp⟩
  · simp [Value.cells] at hcs
    obtain ⟨rfl, rfl, rfl⟩ := hcs
    simp only [if_true] at hmm
    subst hmm
    have hd : d = .slice ((List.range len).map D) ((List.range (m - len)).map fun j => D (len + j)) := by
      have := congrArg Prod.fst hx
      simpa using this
    have hDz : ∀ i, i < len → ∀ q ∈ (D i).weights Try.prog 41, q ≤ reachBytes := fun i hi q hq => by
      refine hz q ?_
      rw [hd]
      simp only [DataW.weights, Try.underlying35]
      refine List.mem_cons_of_mem _ (List.mem_append_left _ ?_)
      exact weightsAll_mem (List.mem_map.2 ⟨i, List.mem_range.2 hi, rfl⟩) q hq
    have hlenz : (len + (m - len)) * 40 ≤ reachBytes := by
      refine hz _ ?_
      rw [hd]
      simp [DataW.weights, Try.underlying35, bytes41]
    obtain ⟨J, hJ⟩ := choose_lt (n := len) (p := fun i (j : Job) => W.cell? (x.add (i * 3)) = some (.int .i64 j.kind) ∧ W.cell? ((x.add (i * 3)).add 1) = some (.slice j.a j.bs.length j.cap) ∧ W.cell? ((x.add (i * 3)).add 2) = some (.int .i64 j.n) ∧ Rd W j.a j.bs ∧ j.bs.length ≤ 140737488355328) (fun i hi => by
      obtain ⟨cs', h1, h2⟩ := hel i (by omega)
      rw [cells41] at h1
      obtain ⟨_, hlen, hcell⟩ := World.cells?_some h1
      obtain ⟨j, rfl, hr, hb⟩ := open_act h2 (hDz i hi)
      refine ⟨j, ?_, ?_, ?_, hr, hb⟩
      · have := hcell 0 (by omega)
        rw [add_add] at this
        simpa using this
      · simpa using hcell 1 (by omega)
      · simpa using hcell 2 (by omega))
    refine ⟨(List.range len).map J, by simp, ⟨fun j hj => ?_, fun hl0 => ?_⟩, by have := reachBytes_lt; simp; omega⟩
    · obtain ⟨i, hi, rfl⟩ := List.mem_map.1 hj
      exact ⟨(hJ i (List.mem_range.1 hi)).2.2.2.1, (hJ i (List.mem_range.1 hi)).2.2.2.2⟩
    · simp only [List.length_map, List.length_range] at hl0
      have h0 := (hJ 0 hl0).1
      obtain ⟨g, off, spot⟩ := x
      have hs : spot = none := by
        cases spot with
        | none => rfl
        | some s =>
          exfalso
          simp only [Addr.add, Nat.zero_mul, if_true] at h0
          unfold World.cell? at h0
          split at h0
          · simp at h0
          · cases h0
      subst hs
      refine ⟨g, off, rfl, ?_, fun k j hj => ?_⟩
      · rw [addr_add] at h0
        unfold World.cell? at h0
        apply Nat.lt_of_not_le
        intro hge
        rw [Array.getElem?_eq_none hge] at h0
        cases h0
      · have hk : k < len := by simpa using (List.getElem?_eq_some_iff.1 hj).1
        have hjk : j = J k := by
          simp [hk] at hj
          exact hj.symm
        subst hjk
        obtain ⟨c0, c1, c2, _, _⟩ := hJ k hk
        simp only [addr_add] at c0 c1 c2
        exact ⟨c0, c1, c2⟩

/-! ### THE ROW's STEP -/
set_option maxRecDepth 100000 in
theorem lifted (os : Os) (started : os.Started) (H : Type) (enc : TypeId × Value → H) :
    ReturnsInHanded {} Try.checked os 6 .any (Rows.linePlaysSpec.pre6 enc Try.prog Try.f6 Rows.linePlaysRow.domain false) (Rows.linePlaysSpec.post enc Try.prog Try.f6 false true false false) := by
  refine returnsInHanded_of_change_sized (C := Try.checked) own started (by kernel_rfl) Try.func6
    (ChangeSpec.witness6 (enc := enc) (C := Try.checked) false ⟨#[], #[.slice none 0 0], []⟩ 8 (by kernel_rfl) (by kernel_rfl) (by kernel_rfl) (by kernel_rfl)) ?_
  intro W base args ds gs before hval0 hW hcnd hsz _
  have hval : ∀ (j : Nat) t v, Try.f6.params[j]? = some t → args[j]? = some v → Value.okWide Try.prog W .any base t v := hval0
  have hW' := hW
  obtain ⟨p, q, hA0, hV, rfl, hfz, hnd⟩ := hW
  have hA : DataW.TrodAll enc Try.prog W 0 (fun _ => true) true Try.f6.params.toList args.toList ds p := hA0
  rw [Try.params6] at hA hval
  obtain ⟨v0, vs0, d0, ds0, p0, q0, hargs, rfl, rfl, h0, r0⟩ := trodAll_cons hA
  obtain ⟨rfl, rfl, rfl⟩ := trodAll_nil r0
  obtain rfl : args = #[v0] := by cases args; simp_all
  obtain ⟨rfl, rfl⟩ := trodVars_none hV
  obtain ⟨a0, len0, cap0, rfl⟩ := okWide_slice Try.underlying35 (hval 0 35 v0 rfl rfl)
  have k0 := h0
  have lt0 : ∀ x ∈ p0, x.block < W.heap.size := by obtain ⟨m, hm⟩ := k0; exact DataW.trod_lt m _ _ _ hm
  have hz0 : ∀ m ∈ d0.weights Try.prog 35, m ≤ reachBytes := fun m hm => by
    have := List.all_eq_true.1 hsz m (DataW.weights_mem_each (j := 0) (t := 35) (by rw [Try.params6]; rfl) rfl m hm)
    simpa using this
  obtain ⟨js, rfl, hS, hjl⟩ := open_script h0 hz0
  clear hA0 hval0
  refine (plays_in a0 cap0 js W hS hjl).mono fun e W' ⟨he, bel⟩ => ?_
  subst he
  exact ⟨_, rfl, _, _, _, [], _, [], hW', trodAll_mk1 (shut_bool Try.underlying4 _), (trodAll_cons_mk (Below.trod laidOut (by kernel_rfl) (of_decide_eq_true (by kernel_rfl)) k0 bel lt0) trodAll_mk0), rfl, bel.frame _, fun h => by cases h⟩

theorem over : Rows.linePlaysRow.holds Try.pinned (OpenSpec.ofChange Rows.linePlaysSpec) :=
  OpenClaim.holds_of_wide 6 Try.f6 rfl rfl rfl rfl rfl rfl rfl ⟨rfl, rfl, rfl, rfl, rfl⟩ rfl rfl rfl rfl rfl (by kernel_rfl) Try.func6 (by kernel_rfl)
    (of_decide_eq_true (by kernel_rfl)) (by unfold Func.isWrapper; first | (rw [if_pos (by decide +kernel)]; kernel_rfl) | (rw [if_neg (by decide +kernel)]; exact ⟨rfl, rfl⟩))
    (fun os started H enc _ => lifted os started H enc)

/-- ████ THE STATEMENT ████ -/
theorem proved : Rows.LinePlaysSaid := over
#print axioms proved
end Go.Proofs.Ytobafefpkkahjaa.linePlays

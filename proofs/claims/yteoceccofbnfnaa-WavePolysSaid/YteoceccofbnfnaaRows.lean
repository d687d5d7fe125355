/-
  No cell of these rows narrows 'for every input' (looked for: loops, veiled, ifaces, maps, wideKeys, modest, calm, conditions, laid).
  DERIVED. THE GIVEN ROWS OF THIS SEAT. 6 by the template 'for every input the law returns true; each argument reads behind the call as it read before'; 0 by the template 'total and deterministic' (their statements: YteoceccofbnfnaaTotals.lean).
  GIVEN WITH THE SEED: the statements are not yours to turn. If you find one false, say at which input.
  Laid BY PROGRAM, IN A SANDBOX (cutbox-rows.mjs): the forced cells as the released guide's own fill.sh prints them over the translation c4d9c983b49020d2… (all of the seat's roots in one cut). By AI agents, Wed Nov 11 2026. No macro, syntax, notation, axiom, sorry.
-/
import Derived.Test.YteoceccofbnfnaaChecked
import GoSem.Claim
import GoSem.ClaimJoined
import GoSem.ClaimMapViews
import Derived.JoinedTies
import Derived.KernelRfl
namespace Go.Proofs.Yteoceccofbnfnaa
/- THE CELL 'sum', in the pinned program and in every row, IS THE sha256 OF THE DUMP (.gsa) THAT YteoceccofbnfnaaProg.lean LOADS. Nothing in Lean hashes anything: it is a label: what it is worth is what the hold of that sum in a sandbox is worth. -/
noncomputable def Try.pinned : Pinned := { name := "yteoceccofbnfnaa", sum := "c4d9c983b49020d2ed8fec686a39d396d7b57cd3b9def1aaf5c5e0675bd3b525", checked := Try.checked }
namespace Rows
def none {H : Type} : Left H := { results := [], args := [] }

/-- 'letterboxlaw6.WaveTurns': WHATEVER THE INPUT: true; the input reads as it did. -/
def waveTurnsSpec : ChangeSpec := { name := "waveTurns", fn := fun _ => fun
  | [d] => { results := [.lit (.bool true)], args := [d] }
  | _ => none }
def waveTurnsRow : OpenClaim := { program := "yteoceccofbnfnaa", sum := "c4d9c983b49020d2ed8fec686a39d396d7b57cd3b9def1aaf5c5e0675bd3b525", func := "letterbox/letterboxlaw6.WaveTurns", spec := "waveTurns", apart := false }
def WaveTurnsSaid : Prop := waveTurnsRow.holds Try.pinned (OpenSpec.ofChange waveTurnsSpec)

/-- ITS FALSE NEIGHBOUR: 'it returns false'. Refute it at one input. -/
def waveTurnsWrong : ChangeSpec := { name := "waveTurns", fn := fun _ => fun
  | [d] => { results := [.lit (.bool false)], args := [d] }
  | _ => none }
def WaveTurnsWrongFalsely : Prop := waveTurnsRow.holds Try.pinned (OpenSpec.ofChange waveTurnsWrong)

/-- 'letterboxlaw6.WaveShifts': WHATEVER THE INPUT: true; the input reads as it did. -/
def waveShiftsSpec : ChangeSpec := { name := "waveShifts", fn := fun _ => fun
  | [d] => { results := [.lit (.bool true)], args := [d] }
  | _ => none }
def waveShiftsRow : OpenClaim := { program := "yteoceccofbnfnaa", sum := "c4d9c983b49020d2ed8fec686a39d396d7b57cd3b9def1aaf5c5e0675bd3b525", func := "letterbox/letterboxlaw6.WaveShifts", spec := "waveShifts", apart := false }
def WaveShiftsSaid : Prop := waveShiftsRow.holds Try.pinned (OpenSpec.ofChange waveShiftsSpec)

/-- ITS FALSE NEIGHBOUR: 'it returns false'. Refute it at one input. -/
def waveShiftsWrong : ChangeSpec := { name := "waveShifts", fn := fun _ => fun
  | [d] => { results := [.lit (.bool false)], args := [d] }
  | _ => none }
def WaveShiftsWrongFalsely : Prop := waveShiftsRow.holds Try.pinned (OpenSpec.ofChange waveShiftsWrong)

/-- 'letterboxlaw6.WaveMuls': WHATEVER THE INPUT: true; the input reads as it did. -/
def waveMulsSpec : ChangeSpec := { name := "waveMuls", fn := fun _ => fun
  | [d1, d2] => { results := [.lit (.bool true)], args := [d1, d2] }
  | _ => none }
def waveMulsRow : OpenClaim := { program := "yteoceccofbnfnaa", sum := "c4d9c983b49020d2ed8fec686a39d396d7b57cd3b9def1aaf5c5e0675bd3b525", func := "letterbox/letterboxlaw6.WaveMuls", spec := "waveMuls", apart := false }
def WaveMulsSaid : Prop := waveMulsRow.holds Try.pinned (OpenSpec.ofChange waveMulsSpec)

/-- ITS FALSE NEIGHBOUR: 'it returns false'. Refute it at one input. -/
def waveMulsWrong : ChangeSpec := { name := "waveMuls", fn := fun _ => fun
  | [d1, d2] => { results := [.lit (.bool false)], args := [d1, d2] }
  | _ => none }
def WaveMulsWrongFalsely : Prop := waveMulsRow.holds Try.pinned (OpenSpec.ofChange waveMulsWrong)

/-- 'letterboxlaw6.WaveSizes': WHATEVER THE INPUT: true; the input reads as it did. -/
def waveSizesSpec : ChangeSpec := { name := "waveSizes", fn := fun _ => fun
  | [d1, d2] => { results := [.lit (.bool true)], args := [d1, d2] }
  | _ => none }
def waveSizesRow : OpenClaim := { program := "yteoceccofbnfnaa", sum := "c4d9c983b49020d2ed8fec686a39d396d7b57cd3b9def1aaf5c5e0675bd3b525", func := "letterbox/letterboxlaw6.WaveSizes", spec := "waveSizes", apart := false }
def WaveSizesSaid : Prop := waveSizesRow.holds Try.pinned (OpenSpec.ofChange waveSizesSpec)

/-- ITS FALSE NEIGHBOUR: 'it returns false'. Refute it at one input. -/
def waveSizesWrong : ChangeSpec := { name := "waveSizes", fn := fun _ => fun
  | [d1, d2] => { results := [.lit (.bool false)], args := [d1, d2] }
  | _ => none }
def WaveSizesWrongFalsely : Prop := waveSizesRow.holds Try.pinned (OpenSpec.ofChange waveSizesWrong)

/-- 'letterboxlaw6.WavePolys': WHATEVER THE INPUT: true; the input reads as it did. -/
def wavePolysSpec : ChangeSpec := { name := "wavePolys", fn := fun _ => fun
  | [d1, d2] => { results := [.lit (.bool true)], args := [d1, d2] }
  | _ => none }
def wavePolysRow : OpenClaim := { program := "yteoceccofbnfnaa", sum := "c4d9c983b49020d2ed8fec686a39d396d7b57cd3b9def1aaf5c5e0675bd3b525", func := "letterbox/letterboxlaw6.WavePolys", spec := "wavePolys", apart := false }
def WavePolysSaid : Prop := wavePolysRow.holds Try.pinned (OpenSpec.ofChange wavePolysSpec)

/-- ITS FALSE NEIGHBOUR: 'it returns false'. Refute it at one input. -/
def wavePolysWrong : ChangeSpec := { name := "wavePolys", fn := fun _ => fun
  | [d1, d2] => { results := [.lit (.bool false)], args := [d1, d2] }
  | _ => none }
def WavePolysWrongFalsely : Prop := wavePolysRow.holds Try.pinned (OpenSpec.ofChange wavePolysWrong)

/-- 'letterboxlaw6.WaveSums': WHATEVER THE INPUT: true; the input reads as it did. -/
def waveSumsSpec : ChangeSpec := { name := "waveSums", fn := fun _ => fun
  | [d] => { results := [.lit (.bool true)], args := [d] }
  | _ => none }
def waveSumsRow : OpenClaim := { program := "yteoceccofbnfnaa", sum := "c4d9c983b49020d2ed8fec686a39d396d7b57cd3b9def1aaf5c5e0675bd3b525", func := "letterbox/letterboxlaw6.WaveSums", spec := "waveSums", apart := false }
def WaveSumsSaid : Prop := waveSumsRow.holds Try.pinned (OpenSpec.ofChange waveSumsSpec)

/-- ITS FALSE NEIGHBOUR: 'it returns false'. Refute it at one input. -/
def waveSumsWrong : ChangeSpec := { name := "waveSums", fn := fun _ => fun
  | [d] => { results := [.lit (.bool false)], args := [d] }
  | _ => none }
def WaveSumsWrongFalsely : Prop := waveSumsRow.holds Try.pinned (OpenSpec.ofChange waveSumsWrong)

/- THE SECOND FORM. 'bulk': how many values and letters a reading holds, each counted each time it is reached (what is shared counts as often as it is met; a slice's spare places count too). A statement '..UptoSaid' is the law's where the arguments, and the package variables that the reading takes, are together of bulk at most 1048576: NARROWER than '..Said'. Prove '..Said' where nothing that the law and all that it calls make is longer than what came in: it says more and counts as full. Else prove '..UptoSaid'. A law counts once. -/
mutual
def uptoBulk {H : Type} : DataW H → Nat
  | .lit (.string bytes) => bytes.length + 1
  | .lit _ => 1
  | .nil => 1
  | .ptr d => uptoBulk d + 1
  | .slice elems spare => uptoBulkAll elems + uptoBulkAll spare + 1
  | .agg parts => uptoBulkAll parts + 1
  | .iface _ d => uptoBulk d + 1
  | .map entries => uptoBulkEntries entries + 1
  | .held _ => 1
def uptoBulkAll {H : Type} : List (DataW H) → Nat
  | [] => 0
  | d :: r => uptoBulk d + uptoBulkAll r
def uptoBulkEntries {H : Type} : List (Lit × DataW H) → Nat
  | [] => 0
  | x :: r => uptoBulkEntry x + uptoBulkEntries r
def uptoBulkEntry {H : Type} : Lit × DataW H → Nat
  | (.string bytes, d) => bytes.length + uptoBulk d + 1
  | (_, d) => uptoBulk d + 1
 end
def uptoSmall : (H : Type) → List (DataW H) → Bool := fun _ ds => decide (uptoBulkAll ds ≤ 1048576)
def OpenSpec.upto (s : _root_.Go.ChangeSpec) : _root_.Go.OpenSpec := { _root_.Go.OpenSpec.ofChange s with cond := some uptoSmall }

/-- 'letterboxlaw6.WaveTurns', WHERE WHAT IT READS IS OF BULK AT MOST 1048576: true; the input reads as it did. -/
def waveTurnsUptoRow : OpenClaim := { program := "yteoceccofbnfnaa", sum := "c4d9c983b49020d2ed8fec686a39d396d7b57cd3b9def1aaf5c5e0675bd3b525", func := "letterbox/letterboxlaw6.WaveTurns", spec := "waveTurns", apart := false, narrowed := true }
def WaveTurnsUptoSaid : Prop := waveTurnsUptoRow.holds Try.pinned (OpenSpec.upto waveTurnsSpec)

/-- 'letterboxlaw6.WaveShifts', WHERE WHAT IT READS IS OF BULK AT MOST 1048576: true; the input reads as it did. -/
def waveShiftsUptoRow : OpenClaim := { program := "yteoceccofbnfnaa", sum := "c4d9c983b49020d2ed8fec686a39d396d7b57cd3b9def1aaf5c5e0675bd3b525", func := "letterbox/letterboxlaw6.WaveShifts", spec := "waveShifts", apart := false, narrowed := true }
def WaveShiftsUptoSaid : Prop := waveShiftsUptoRow.holds Try.pinned (OpenSpec.upto waveShiftsSpec)

/-- 'letterboxlaw6.WaveMuls', WHERE WHAT IT READS IS OF BULK AT MOST 1048576: true; the input reads as it did. -/
def waveMulsUptoRow : OpenClaim := { program := "yteoceccofbnfnaa", sum := "c4d9c983b49020d2ed8fec686a39d396d7b57cd3b9def1aaf5c5e0675bd3b525", func := "letterbox/letterboxlaw6.WaveMuls", spec := "waveMuls", apart := false, narrowed := true }
def WaveMulsUptoSaid : Prop := waveMulsUptoRow.holds Try.pinned (OpenSpec.upto waveMulsSpec)

/-- 'letterboxlaw6.WaveSizes', WHERE WHAT IT READS IS OF BULK AT MOST 1048576: true; the input reads as it did. -/
def waveSizesUptoRow : OpenClaim := { program := "yteoceccofbnfnaa", sum := "c4d9c983b49020d2ed8fec686a39d396d7b57cd3b9def1aaf5c5e0675bd3b525", func := "letterbox/letterboxlaw6.WaveSizes", spec := "waveSizes", apart := false, narrowed := true }
def WaveSizesUptoSaid : Prop := waveSizesUptoRow.holds Try.pinned (OpenSpec.upto waveSizesSpec)

/-- 'letterboxlaw6.WavePolys', WHERE WHAT IT READS IS OF BULK AT MOST 1048576: true; the input reads as it did. -/
def wavePolysUptoRow : OpenClaim := { program := "yteoceccofbnfnaa", sum := "c4d9c983b49020d2ed8fec686a39d396d7b57cd3b9def1aaf5c5e0675bd3b525", func := "letterbox/letterboxlaw6.WavePolys", spec := "wavePolys", apart := false, narrowed := true }
def WavePolysUptoSaid : Prop := wavePolysUptoRow.holds Try.pinned (OpenSpec.upto wavePolysSpec)

/-- 'letterboxlaw6.WaveSums', WHERE WHAT IT READS IS OF BULK AT MOST 1048576: true; the input reads as it did. -/
def waveSumsUptoRow : OpenClaim := { program := "yteoceccofbnfnaa", sum := "c4d9c983b49020d2ed8fec686a39d396d7b57cd3b9def1aaf5c5e0675bd3b525", func := "letterbox/letterboxlaw6.WaveSums", spec := "waveSums", apart := false, narrowed := true }
def WaveSumsUptoSaid : Prop := waveSumsUptoRow.holds Try.pinned (OpenSpec.upto waveSumsSpec)

end Rows
end Go.Proofs.Yteoceccofbnfnaa

/-
  No cell of these rows narrows 'for every input' (looked for: loops, veiled, ifaces, maps, wideKeys, modest, calm, conditions, laid).
  DERIVED. THE GIVEN ROWS OF THIS SEAT. 7 by the template 'for every input the law returns true; each argument reads behind the call as it read before'; 0 by the template 'total and deterministic' (their statements: YtobafefpkkahjaaTotals.lean).
  GIVEN WITH THE SEED: the statements are not yours to turn. If you find one false, say at which input.
  Laid BY PROGRAM, IN A SANDBOX (cutbox-rows.mjs): the forced cells as the released guide's own fill.sh prints them over the translation 862ff12e3cfc3387… (all of the seat's roots in one cut). By AI agents, Wed Nov 11 2026. No macro, syntax, notation, axiom, sorry.
-/
import Derived.Test.YtobafefpkkahjaaChecked
import GoSem.Claim
import GoSem.ClaimJoined
import GoSem.ClaimMapViews
import Derived.JoinedTies
import Derived.KernelRfl
namespace Go.Proofs.Ytobafefpkkahjaa
/- THE CELL 'sum', in the pinned program and in every row, IS THE sha256 OF THE DUMP (.gsa) THAT YtobafefpkkahjaaProg.lean LOADS. Nothing in Lean hashes anything: it is a label: what it is worth is what the hold of that sum in a sandbox is worth. -/
noncomputable def Try.pinned : Pinned := { name := "ytobafefpkkahjaa", sum := "862ff12e3cfc338706700ac9434026e6530e732064b3a2aa0f909331fa7c7af2", checked := Try.checked }
namespace Rows
def none {H : Type} : Left H := { results := [], args := [] }

/-- 'letterboxlaw8.LinePieces': WHATEVER THE INPUT: true; the input reads as it did. -/
def linePiecesSpec : ChangeSpec := { name := "linePieces", fn := fun _ => fun
  | [d1, d2] => { results := [.lit (.bool true)], args := [d1, d2] }
  | _ => none }
def linePiecesRow : OpenClaim := { program := "ytobafefpkkahjaa", sum := "862ff12e3cfc338706700ac9434026e6530e732064b3a2aa0f909331fa7c7af2", func := "letterbox/letterboxlaw8.LinePieces", spec := "linePieces", inPlace := ["internal/bytealg.IndexByte"], apart := false }
def LinePiecesSaid : Prop := linePiecesRow.holds Try.pinned (OpenSpec.ofChange linePiecesSpec)

/-- ITS FALSE NEIGHBOUR: 'it returns false'. Refute it at one input. -/
def linePiecesWrong : ChangeSpec := { name := "linePieces", fn := fun _ => fun
  | [d1, d2] => { results := [.lit (.bool false)], args := [d1, d2] }
  | _ => none }
def LinePiecesWrongFalsely : Prop := linePiecesRow.holds Try.pinned (OpenSpec.ofChange linePiecesWrong)

/-- 'letterboxlaw8.LineLong': WHATEVER THE INPUT: true; the input reads as it did. -/
def lineLongSpec : ChangeSpec := { name := "lineLong", fn := fun _ => fun
  | [d1, d2, d3] => { results := [.lit (.bool true)], args := [d1, d2, d3] }
  | _ => none }
def lineLongRow : OpenClaim := { program := "ytobafefpkkahjaa", sum := "862ff12e3cfc338706700ac9434026e6530e732064b3a2aa0f909331fa7c7af2", func := "letterbox/letterboxlaw8.LineLong", spec := "lineLong", inPlace := ["internal/bytealg.IndexByte"], apart := false }
def LineLongSaid : Prop := lineLongRow.holds Try.pinned (OpenSpec.ofChange lineLongSpec)

/-- ITS FALSE NEIGHBOUR: 'it returns false'. Refute it at one input. -/
def lineLongWrong : ChangeSpec := { name := "lineLong", fn := fun _ => fun
  | [d1, d2, d3] => { results := [.lit (.bool false)], args := [d1, d2, d3] }
  | _ => none }
def LineLongWrongFalsely : Prop := lineLongRow.holds Try.pinned (OpenSpec.ofChange lineLongWrong)

/-- 'letterboxlaw8.LineCounts': WHATEVER THE INPUT: true; the input reads as it did. -/
def lineCountsSpec : ChangeSpec := { name := "lineCounts", fn := fun _ => fun
  | [d] => { results := [.lit (.bool true)], args := [d] }
  | _ => none }
def lineCountsRow : OpenClaim := { program := "ytobafefpkkahjaa", sum := "862ff12e3cfc338706700ac9434026e6530e732064b3a2aa0f909331fa7c7af2", func := "letterbox/letterboxlaw8.LineCounts", spec := "lineCounts", inPlace := ["internal/bytealg.IndexByte"], apart := false }
def LineCountsSaid : Prop := lineCountsRow.holds Try.pinned (OpenSpec.ofChange lineCountsSpec)

/-- ITS FALSE NEIGHBOUR: 'it returns false'. Refute it at one input. -/
def lineCountsWrong : ChangeSpec := { name := "lineCounts", fn := fun _ => fun
  | [d] => { results := [.lit (.bool false)], args := [d] }
  | _ => none }
def LineCountsWrongFalsely : Prop := lineCountsRow.holds Try.pinned (OpenSpec.ofChange lineCountsWrong)

/-- 'letterboxlaw8.LinePlays': WHATEVER THE INPUT: true; the input reads as it did. -/
def linePlaysSpec : ChangeSpec := { name := "linePlays", fn := fun _ => fun
  | [d] => { results := [.lit (.bool true)], args := [d] }
  | _ => none }
def linePlaysRow : OpenClaim := { program := "ytobafefpkkahjaa", sum := "862ff12e3cfc338706700ac9434026e6530e732064b3a2aa0f909331fa7c7af2", func := "letterbox/letterboxlaw8.LinePlays", spec := "linePlays", inPlace := ["internal/bytealg.IndexByte"], apart := false }
def LinePlaysSaid : Prop := linePlaysRow.holds Try.pinned (OpenSpec.ofChange linePlaysSpec)

/-- ITS FALSE NEIGHBOUR: 'it returns false'. Refute it at one input. -/
def linePlaysWrong : ChangeSpec := { name := "linePlays", fn := fun _ => fun
  | [d] => { results := [.lit (.bool false)], args := [d] }
  | _ => none }
def LinePlaysWrongFalsely : Prop := linePlaysRow.holds Try.pinned (OpenSpec.ofChange linePlaysWrong)

/-- 'letterboxlaw8.LineLiteral': WHATEVER THE INPUT: true; the input reads as it did. -/
def lineLiteralSpec : ChangeSpec := { name := "lineLiteral", fn := fun _ => fun
  | [d1, d2, d3] => { results := [.lit (.bool true)], args := [d1, d2, d3] }
  | _ => none }
def lineLiteralRow : OpenClaim := { program := "ytobafefpkkahjaa", sum := "862ff12e3cfc338706700ac9434026e6530e732064b3a2aa0f909331fa7c7af2", func := "letterbox/letterboxlaw8.LineLiteral", spec := "lineLiteral", inPlace := ["internal/bytealg.IndexByte"], apart := false }
def LineLiteralSaid : Prop := lineLiteralRow.holds Try.pinned (OpenSpec.ofChange lineLiteralSpec)

/-- ITS FALSE NEIGHBOUR: 'it returns false'. Refute it at one input. -/
def lineLiteralWrong : ChangeSpec := { name := "lineLiteral", fn := fun _ => fun
  | [d1, d2, d3] => { results := [.lit (.bool false)], args := [d1, d2, d3] }
  | _ => none }
def LineLiteralWrongFalsely : Prop := lineLiteralRow.holds Try.pinned (OpenSpec.ofChange lineLiteralWrong)

/-- 'letterboxlaw8.LineOfNothing': WHATEVER THE INPUT: true; the input reads as it did. -/
def lineOfNothingSpec : ChangeSpec := { name := "lineOfNothing", fn := fun _ => fun
  | [d1, d2] => { results := [.lit (.bool true)], args := [d1, d2] }
  | _ => none }
def lineOfNothingRow : OpenClaim := { program := "ytobafefpkkahjaa", sum := "862ff12e3cfc338706700ac9434026e6530e732064b3a2aa0f909331fa7c7af2", func := "letterbox/letterboxlaw8.LineOfNothing", spec := "lineOfNothing", inPlace := ["internal/bytealg.IndexByte"], apart := false }
def LineOfNothingSaid : Prop := lineOfNothingRow.holds Try.pinned (OpenSpec.ofChange lineOfNothingSpec)

/-- ITS FALSE NEIGHBOUR: 'it returns false'. Refute it at one input. -/
def lineOfNothingWrong : ChangeSpec := { name := "lineOfNothing", fn := fun _ => fun
  | [d1, d2] => { results := [.lit (.bool false)], args := [d1, d2] }
  | _ => none }
def LineOfNothingWrongFalsely : Prop := lineOfNothingRow.holds Try.pinned (OpenSpec.ofChange lineOfNothingWrong)

/-- 'letterboxlaw8.LineWants': WHATEVER THE INPUT: true; the input reads as it did. -/
def lineWantsSpec : ChangeSpec := { name := "lineWants", fn := fun _ => fun
  | [d1, d2] => { results := [.lit (.bool true)], args := [d1, d2] }
  | _ => none }
def lineWantsRow : OpenClaim := { program := "ytobafefpkkahjaa", sum := "862ff12e3cfc338706700ac9434026e6530e732064b3a2aa0f909331fa7c7af2", func := "letterbox/letterboxlaw8.LineWants", spec := "lineWants", inPlace := ["internal/bytealg.IndexByte"], apart := false }
def LineWantsSaid : Prop := lineWantsRow.holds Try.pinned (OpenSpec.ofChange lineWantsSpec)

/-- ITS FALSE NEIGHBOUR: 'it returns false'. Refute it at one input. -/
def lineWantsWrong : ChangeSpec := { name := "lineWants", fn := fun _ => fun
  | [d1, d2] => { results := [.lit (.bool false)], args := [d1, d2] }
  | _ => none }
def LineWantsWrongFalsely : Prop := lineWantsRow.holds Try.pinned (OpenSpec.ofChange lineWantsWrong)

/- THE SECOND FORM. 'bulk': how many values and letters a reading holds, each counted each time it is reached (what is shared counts as often as it is met; a slice's spare places count too). A statement '..UptoSaid' is the law's where the arguments, and the package variables that the reading takes, are together of bulk at most 1048576: NARROWER than '..Said'. Prove '..Said' where nothing that the law and all that it calls make is longer than what came in: it says more and counts as full. Else prove '..UptoSaid'. A law counts once. -/
mutual
def uptoBulk {H : Type} : DataW H → Nat
  | .lit (.string bytes) => bytes.length + 1
  | .lit _ => 1
  | .nil => 1
  | .ptr d => uptoBulk d + 1
  | .slice elems spare => uptoBulkAll elems + uptoBulkAll spare + 1
  | .agg parts => uptoBulkAll parts + 1
  | .iface _ d => uptoBulk d + 1
  | .map entries => uptoBulkEntries entries + 1
  | .held _ => 1
def uptoBulkAll {H : Type} : List (DataW H) → Nat
  | [] => 0
  | d :: r => uptoBulk d + uptoBulkAll r
def uptoBulkEntries {H : Type} : List (Lit × DataW H) → Nat
  | [] => 0
  | x :: r => uptoBulkEntry x + uptoBulkEntries r
def uptoBulkEntry {H : Type} : Lit × DataW H → Nat
  | (.string bytes, d) => bytes.length + uptoBulk d + 1
  | (_, d) => uptoBulk d + 1
 end
def uptoSmall : (H : Type) → List (DataW H) → Bool := fun _ ds => decide (uptoBulkAll ds ≤ 1048576)
def OpenSpec.upto (s : _root_.Go.ChangeSpec) : _root_.Go.OpenSpec := { _root_.Go.OpenSpec.ofChange s with cond := some uptoSmall }

/-- 'letterboxlaw8.LinePieces', WHERE WHAT IT READS IS OF BULK AT MOST 1048576: true; the input reads as it did. -/
def linePiecesUptoRow : OpenClaim := { program := "ytobafefpkkahjaa", sum := "862ff12e3cfc338706700ac9434026e6530e732064b3a2aa0f909331fa7c7af2", func := "letterbox/letterboxlaw8.LinePieces", spec := "linePieces", inPlace := ["internal/bytealg.IndexByte"], apart := false, narrowed := true }
def LinePiecesUptoSaid : Prop := linePiecesUptoRow.holds Try.pinned (OpenSpec.upto linePiecesSpec)

/-- 'letterboxlaw8.LineLong', WHERE WHAT IT READS IS OF BULK AT MOST 1048576: true; the input reads as it did. -/
def lineLongUptoRow : OpenClaim := { program := "ytobafefpkkahjaa", sum := "862ff12e3cfc338706700ac9434026e6530e732064b3a2aa0f909331fa7c7af2", func := "letterbox/letterboxlaw8.LineLong", spec := "lineLong", inPlace := ["internal/bytealg.IndexByte"], apart := false, narrowed := true }
def LineLongUptoSaid : Prop := lineLongUptoRow.holds Try.pinned (OpenSpec.upto lineLongSpec)

/-- 'letterboxlaw8.LineCounts', WHERE WHAT IT READS IS OF BULK AT MOST 1048576: true; the input reads as it did. -/
def lineCountsUptoRow : OpenClaim := { program := "ytobafefpkkahjaa", sum := "862ff12e3cfc338706700ac9434026e6530e732064b3a2aa0f909331fa7c7af2", func := "letterbox/letterboxlaw8.LineCounts", spec := "lineCounts", inPlace := ["internal/bytealg.IndexByte"], apart := false, narrowed := true }
def LineCountsUptoSaid : Prop := lineCountsUptoRow.holds Try.pinned (OpenSpec.upto lineCountsSpec)

/-- 'letterboxlaw8.LinePlays', WHERE WHAT IT READS IS OF BULK AT MOST 1048576: true; the input reads as it did. -/
def linePlaysUptoRow : OpenClaim := { program := "ytobafefpkkahjaa", sum := "862ff12e3cfc338706700ac9434026e6530e732064b3a2aa0f909331fa7c7af2", func := "letterbox/letterboxlaw8.LinePlays", spec := "linePlays", inPlace := ["internal/bytealg.IndexByte"], apart := false, narrowed := true }
def LinePlaysUptoSaid : Prop := linePlaysUptoRow.holds Try.pinned (OpenSpec.upto linePlaysSpec)

/-- 'letterboxlaw8.LineLiteral', WHERE WHAT IT READS IS OF BULK AT MOST 1048576: true; the input reads as it did. -/
def lineLiteralUptoRow : OpenClaim := { program := "ytobafefpkkahjaa", sum := "862ff12e3cfc338706700ac9434026e6530e732064b3a2aa0f909331fa7c7af2", func := "letterbox/letterboxlaw8.LineLiteral", spec := "lineLiteral", inPlace := ["internal/bytealg.IndexByte"], apart := false, narrowed := true }
def LineLiteralUptoSaid : Prop := lineLiteralUptoRow.holds Try.pinned (OpenSpec.upto lineLiteralSpec)

/-- 'letterboxlaw8.LineOfNothing', WHERE WHAT IT READS IS OF BULK AT MOST 1048576: true; the input reads as it did. -/
def lineOfNothingUptoRow : OpenClaim := { program := "ytobafefpkkahjaa", sum := "862ff12e3cfc338706700ac9434026e6530e732064b3a2aa0f909331fa7c7af2", func := "letterbox/letterboxlaw8.LineOfNothing", spec := "lineOfNothing", inPlace := ["internal/bytealg.IndexByte"], apart := false, narrowed := true }
def LineOfNothingUptoSaid : Prop := lineOfNothingUptoRow.holds Try.pinned (OpenSpec.upto lineOfNothingSpec)

/-- 'letterboxlaw8.LineWants', WHERE WHAT IT READS IS OF BULK AT MOST 1048576: true; the input reads as it did. -/
def lineWantsUptoRow : OpenClaim := { program := "ytobafefpkkahjaa", sum := "862ff12e3cfc338706700ac9434026e6530e732064b3a2aa0f909331fa7c7af2", func := "letterbox/letterboxlaw8.LineWants", spec := "lineWants", inPlace := ["internal/bytealg.IndexByte"], apart := false, narrowed := true }
def LineWantsUptoSaid : Prop := lineWantsUptoRow.holds Try.pinned (OpenSpec.upto lineWantsSpec)

end Rows
end Go.Proofs.Ytobafefpkkahjaa

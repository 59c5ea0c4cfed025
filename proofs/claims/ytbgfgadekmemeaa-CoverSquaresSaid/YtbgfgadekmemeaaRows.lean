/-
  No cell of these rows narrows 'for every input' (looked for: loops, veiled, ifaces, maps, wideKeys, modest, calm, conditions, laid).
  DERIVED. THE GIVEN ROWS OF THIS SEAT. 8 by the template 'for every input the law returns true; each argument reads behind the call as it read before'; 0 by the template 'total and deterministic' (their statements: YtbgfgadekmemeaaTotals.lean).
  GIVEN WITH THE SEED: the statements are not yours to turn. If you find one false, say at which input.
  Laid BY PROGRAM, IN A SANDBOX (cutbox-rows.mjs): the forced cells as the released guide's own fill.sh prints them over the translation 65860403185dd50d… (all of the seat's roots in one cut). By AI agents, Wed Nov 11 2026. No macro, syntax, notation, axiom, sorry.
-/
import Derived.Test.YtbgfgadekmemeaaChecked
import GoSem.Claim
import GoSem.ClaimJoined
import GoSem.ClaimMapViews
import Derived.JoinedTies
import Derived.KernelRfl
namespace Go.Proofs.Ytbgfgadekmemeaa
/- THE CELL 'sum', in the pinned program and in every row, IS THE sha256 OF THE DUMP (.gsa) THAT YtbgfgadekmemeaaProg.lean LOADS. Nothing in Lean hashes anything: it is a label: what it is worth is what the hold of that sum in a sandbox is worth. -/
noncomputable def Try.pinned : Pinned := { name := "ytbgfgadekmemeaa", sum := "65860403185dd50da2573d13fc834d4a0f93f267896310c2a5b3364b436702a3", checked := Try.checked }
namespace Rows
def none {H : Type} : Left H := { results := [], args := [] }

/-- 'imageeditorlaw20.CoverChecks': WHATEVER THE INPUT: true; the input reads as it did. -/
def coverChecksSpec : ChangeSpec := { name := "coverChecks", fn := fun _ => fun
  | [d1, d2] => { results := [.lit (.bool true)], args := [d1, d2] }
  | _ => none }
def coverChecksRow : OpenClaim := { program := "ytbgfgadekmemeaa", sum := "65860403185dd50da2573d13fc834d4a0f93f267896310c2a5b3364b436702a3", func := "imageeditor/imageeditorlaw20.CoverChecks", spec := "coverChecks", unfollowed := true, recurses := true, apart := false }
def CoverChecksSaid : Prop := coverChecksRow.holds Try.pinned (OpenSpec.ofChange coverChecksSpec)

/-- ITS FALSE NEIGHBOUR: 'it returns false'. Refute it at one input. -/
def coverChecksWrong : ChangeSpec := { name := "coverChecks", fn := fun _ => fun
  | [d1, d2] => { results := [.lit (.bool false)], args := [d1, d2] }
  | _ => none }
def CoverChecksWrongFalsely : Prop := coverChecksRow.holds Try.pinned (OpenSpec.ofChange coverChecksWrong)

/-- 'imageeditorlaw20.CoverMasks': WHATEVER THE INPUT: true; the input reads as it did. -/
def coverMasksSpec : ChangeSpec := { name := "coverMasks", fn := fun _ => fun
  | [d1, d2, d3] => { results := [.lit (.bool true)], args := [d1, d2, d3] }
  | _ => none }
def coverMasksRow : OpenClaim := { program := "ytbgfgadekmemeaa", sum := "65860403185dd50da2573d13fc834d4a0f93f267896310c2a5b3364b436702a3", func := "imageeditor/imageeditorlaw20.CoverMasks", spec := "coverMasks", unfollowed := true, recurses := true, apart := false }
def CoverMasksSaid : Prop := coverMasksRow.holds Try.pinned (OpenSpec.ofChange coverMasksSpec)

/-- ITS FALSE NEIGHBOUR: 'it returns false'. Refute it at one input. -/
def coverMasksWrong : ChangeSpec := { name := "coverMasks", fn := fun _ => fun
  | [d1, d2, d3] => { results := [.lit (.bool false)], args := [d1, d2, d3] }
  | _ => none }
def CoverMasksWrongFalsely : Prop := coverMasksRow.holds Try.pinned (OpenSpec.ofChange coverMasksWrong)

/-- 'imageeditorlaw20.CoverPaints': WHATEVER THE INPUT: true; the input reads as it did. -/
def coverPaintsSpec : ChangeSpec := { name := "coverPaints", fn := fun _ => fun
  | [d1, d2, d3, d4] => { results := [.lit (.bool true)], args := [d1, d2, d3, d4] }
  | _ => none }
def coverPaintsRow : OpenClaim := { program := "ytbgfgadekmemeaa", sum := "65860403185dd50da2573d13fc834d4a0f93f267896310c2a5b3364b436702a3", func := "imageeditor/imageeditorlaw20.CoverPaints", spec := "coverPaints", unfollowed := true, recurses := true, apart := false }
def CoverPaintsSaid : Prop := coverPaintsRow.holds Try.pinned (OpenSpec.ofChange coverPaintsSpec)

/-- ITS FALSE NEIGHBOUR: 'it returns false'. Refute it at one input. -/
def coverPaintsWrong : ChangeSpec := { name := "coverPaints", fn := fun _ => fun
  | [d1, d2, d3, d4] => { results := [.lit (.bool false)], args := [d1, d2, d3, d4] }
  | _ => none }
def CoverPaintsWrongFalsely : Prop := coverPaintsRow.holds Try.pinned (OpenSpec.ofChange coverPaintsWrong)

/-- 'imageeditorlaw20.CoverTurns': WHATEVER THE INPUT: true; the input reads as it did. -/
def coverTurnsSpec : ChangeSpec := { name := "coverTurns", fn := fun _ => fun
  | [d1, d2, d3] => { results := [.lit (.bool true)], args := [d1, d2, d3] }
  | _ => none }
def coverTurnsRow : OpenClaim := { program := "ytbgfgadekmemeaa", sum := "65860403185dd50da2573d13fc834d4a0f93f267896310c2a5b3364b436702a3", func := "imageeditor/imageeditorlaw20.CoverTurns", spec := "coverTurns", unfollowed := true, recurses := true, apart := false }
def CoverTurnsSaid : Prop := coverTurnsRow.holds Try.pinned (OpenSpec.ofChange coverTurnsSpec)

/-- ITS FALSE NEIGHBOUR: 'it returns false'. Refute it at one input. -/
def coverTurnsWrong : ChangeSpec := { name := "coverTurns", fn := fun _ => fun
  | [d1, d2, d3] => { results := [.lit (.bool false)], args := [d1, d2, d3] }
  | _ => none }
def CoverTurnsWrongFalsely : Prop := coverTurnsRow.holds Try.pinned (OpenSpec.ofChange coverTurnsWrong)

/-- 'imageeditorlaw20.CoverCuts': WHATEVER THE INPUT: true; the input reads as it did. -/
def coverCutsSpec : ChangeSpec := { name := "coverCuts", fn := fun _ => fun
  | [d1, d2, d3] => { results := [.lit (.bool true)], args := [d1, d2, d3] }
  | _ => none }
def coverCutsRow : OpenClaim := { program := "ytbgfgadekmemeaa", sum := "65860403185dd50da2573d13fc834d4a0f93f267896310c2a5b3364b436702a3", func := "imageeditor/imageeditorlaw20.CoverCuts", spec := "coverCuts", unfollowed := true, recurses := true, apart := false }
def CoverCutsSaid : Prop := coverCutsRow.holds Try.pinned (OpenSpec.ofChange coverCutsSpec)

/-- ITS FALSE NEIGHBOUR: 'it returns false'. Refute it at one input. -/
def coverCutsWrong : ChangeSpec := { name := "coverCuts", fn := fun _ => fun
  | [d1, d2, d3] => { results := [.lit (.bool false)], args := [d1, d2, d3] }
  | _ => none }
def CoverCutsWrongFalsely : Prop := coverCutsRow.holds Try.pinned (OpenSpec.ofChange coverCutsWrong)

/-- 'imageeditorlaw20.CoverSquares': WHATEVER THE INPUT: true; the input reads as it did. -/
def coverSquaresSpec : ChangeSpec := { name := "coverSquares", fn := fun _ => fun
  | [d1, d2, d3, d4, d5] => { results := [.lit (.bool true)], args := [d1, d2, d3, d4, d5] }
  | _ => none }
def coverSquaresRow : OpenClaim := { program := "ytbgfgadekmemeaa", sum := "65860403185dd50da2573d13fc834d4a0f93f267896310c2a5b3364b436702a3", func := "imageeditor/imageeditorlaw20.CoverSquares", spec := "coverSquares", unfollowed := true, recurses := true, apart := false }
def CoverSquaresSaid : Prop := coverSquaresRow.holds Try.pinned (OpenSpec.ofChange coverSquaresSpec)

/-- ITS FALSE NEIGHBOUR: 'it returns false'. Refute it at one input. -/
def coverSquaresWrong : ChangeSpec := { name := "coverSquares", fn := fun _ => fun
  | [d1, d2, d3, d4, d5] => { results := [.lit (.bool false)], args := [d1, d2, d3, d4, d5] }
  | _ => none }
def CoverSquaresWrongFalsely : Prop := coverSquaresRow.holds Try.pinned (OpenSpec.ofChange coverSquaresWrong)

/-- 'imageeditorlaw20.CoverParts': WHATEVER THE INPUT: true; the input reads as it did. -/
def coverPartsSpec : ChangeSpec := { name := "coverParts", fn := fun _ => fun
  | [d1, d2, d3, d4] => { results := [.lit (.bool true)], args := [d1, d2, d3, d4] }
  | _ => none }
def coverPartsRow : OpenClaim := { program := "ytbgfgadekmemeaa", sum := "65860403185dd50da2573d13fc834d4a0f93f267896310c2a5b3364b436702a3", func := "imageeditor/imageeditorlaw20.CoverParts", spec := "coverParts", unfollowed := true, recurses := true, apart := false }
def CoverPartsSaid : Prop := coverPartsRow.holds Try.pinned (OpenSpec.ofChange coverPartsSpec)

/-- ITS FALSE NEIGHBOUR: 'it returns false'. Refute it at one input. -/
def coverPartsWrong : ChangeSpec := { name := "coverParts", fn := fun _ => fun
  | [d1, d2, d3, d4] => { results := [.lit (.bool false)], args := [d1, d2, d3, d4] }
  | _ => none }
def CoverPartsWrongFalsely : Prop := coverPartsRow.holds Try.pinned (OpenSpec.ofChange coverPartsWrong)

/-- 'imageeditorlaw20.CoverMoves': WHATEVER THE INPUT: true; the input reads as it did. -/
def coverMovesSpec : ChangeSpec := { name := "coverMoves", fn := fun _ => fun
  | [d1, d2, d3, d4, d5] => { results := [.lit (.bool true)], args := [d1, d2, d3, d4, d5] }
  | _ => none }
def coverMovesRow : OpenClaim := { program := "ytbgfgadekmemeaa", sum := "65860403185dd50da2573d13fc834d4a0f93f267896310c2a5b3364b436702a3", func := "imageeditor/imageeditorlaw20.CoverMoves", spec := "coverMoves", unfollowed := true, recurses := true, apart := false }
def CoverMovesSaid : Prop := coverMovesRow.holds Try.pinned (OpenSpec.ofChange coverMovesSpec)

/-- ITS FALSE NEIGHBOUR: 'it returns false'. Refute it at one input. -/
def coverMovesWrong : ChangeSpec := { name := "coverMoves", fn := fun _ => fun
  | [d1, d2, d3, d4, d5] => { results := [.lit (.bool false)], args := [d1, d2, d3, d4, d5] }
  | _ => none }
def CoverMovesWrongFalsely : Prop := coverMovesRow.holds Try.pinned (OpenSpec.ofChange coverMovesWrong)

/- THE SECOND FORM. 'bulk': how many values and letters a reading holds, each counted each time it is reached (what is shared counts as often as it is met; a slice's spare places count too). A statement '..UptoSaid' is the law's where the arguments, and the package variables that the reading takes, are together of bulk at most 1048576: NARROWER than '..Said'. Prove '..Said' where nothing that the law and all that it calls make is longer than what came in: it says more and counts as full. Else prove '..UptoSaid'. A law counts once. -/
mutual
def uptoBulk {H : Type} : DataW H → Nat
  | .lit (.string bytes) => bytes.length + 1
  | .lit _ => 1
  | .nil => 1
  | .ptr d => uptoBulk d + 1
  | .slice elems spare => uptoBulkAll elems + uptoBulkAll spare + 1
  | .agg parts => uptoBulkAll parts + 1
  | .iface _ d => uptoBulk d + 1
  | .map entries => uptoBulkEntries entries + 1
  | .held _ => 1
def uptoBulkAll {H : Type} : List (DataW H) → Nat
  | [] => 0
  | d :: r => uptoBulk d + uptoBulkAll r
def uptoBulkEntries {H : Type} : List (Lit × DataW H) → Nat
  | [] => 0
  | x :: r => uptoBulkEntry x + uptoBulkEntries r
def uptoBulkEntry {H : Type} : Lit × DataW H → Nat
  | (.string bytes, d) => bytes.length + uptoBulk d + 1
  | (_, d) => uptoBulk d + 1
 end
def uptoSmall : (H : Type) → List (DataW H) → Bool := fun _ ds => decide (uptoBulkAll ds ≤ 1048576)
def OpenSpec.upto (s : _root_.Go.ChangeSpec) : _root_.Go.OpenSpec := { _root_.Go.OpenSpec.ofChange s with cond := some uptoSmall }

/-- 'imageeditorlaw20.CoverChecks', WHERE WHAT IT READS IS OF BULK AT MOST 1048576: true; the input reads as it did. -/
def coverChecksUptoRow : OpenClaim := { program := "ytbgfgadekmemeaa", sum := "65860403185dd50da2573d13fc834d4a0f93f267896310c2a5b3364b436702a3", func := "imageeditor/imageeditorlaw20.CoverChecks", spec := "coverChecks", unfollowed := true, recurses := true, apart := false, narrowed := true }
def CoverChecksUptoSaid : Prop := coverChecksUptoRow.holds Try.pinned (OpenSpec.upto coverChecksSpec)

/-- 'imageeditorlaw20.CoverMasks', WHERE WHAT IT READS IS OF BULK AT MOST 1048576: true; the input reads as it did. -/
def coverMasksUptoRow : OpenClaim := { program := "ytbgfgadekmemeaa", sum := "65860403185dd50da2573d13fc834d4a0f93f267896310c2a5b3364b436702a3", func := "imageeditor/imageeditorlaw20.CoverMasks", spec := "coverMasks", unfollowed := true, recurses := true, apart := false, narrowed := true }
def CoverMasksUptoSaid : Prop := coverMasksUptoRow.holds Try.pinned (OpenSpec.upto coverMasksSpec)

/-- 'imageeditorlaw20.CoverPaints', WHERE WHAT IT READS IS OF BULK AT MOST 1048576: true; the input reads as it did. -/
def coverPaintsUptoRow : OpenClaim := { program := "ytbgfgadekmemeaa", sum := "65860403185dd50da2573d13fc834d4a0f93f267896310c2a5b3364b436702a3", func := "imageeditor/imageeditorlaw20.CoverPaints", spec := "coverPaints", unfollowed := true, recurses := true, apart := false, narrowed := true }
def CoverPaintsUptoSaid : Prop := coverPaintsUptoRow.holds Try.pinned (OpenSpec.upto coverPaintsSpec)

/-- 'imageeditorlaw20.CoverTurns', WHERE WHAT IT READS IS OF BULK AT MOST 1048576: true; the input reads as it did. -/
def coverTurnsUptoRow : OpenClaim := { program := "ytbgfgadekmemeaa", sum := "65860403185dd50da2573d13fc834d4a0f93f267896310c2a5b3364b436702a3", func := "imageeditor/imageeditorlaw20.CoverTurns", spec := "coverTurns", unfollowed := true, recurses := true, apart := false, narrowed := true }
def CoverTurnsUptoSaid : Prop := coverTurnsUptoRow.holds Try.pinned (OpenSpec.upto coverTurnsSpec)

/-- 'imageeditorlaw20.CoverCuts', WHERE WHAT IT READS IS OF BULK AT MOST 1048576: true; the input reads as it did. -/
def coverCutsUptoRow : OpenClaim := { program := "ytbgfgadekmemeaa", sum := "65860403185dd50da2573d13fc834d4a0f93f267896310c2a5b3364b436702a3", func := "imageeditor/imageeditorlaw20.CoverCuts", spec := "coverCuts", unfollowed := true, recurses := true, apart := false, narrowed := true }
def CoverCutsUptoSaid : Prop := coverCutsUptoRow.holds Try.pinned (OpenSpec.upto coverCutsSpec)

/-- 'imageeditorlaw20.CoverSquares', WHERE WHAT IT READS IS OF BULK AT MOST 1048576: true; the input reads as it did. -/
def coverSquaresUptoRow : OpenClaim := { program := "ytbgfgadekmemeaa", sum := "65860403185dd50da2573d13fc834d4a0f93f267896310c2a5b3364b436702a3", func := "imageeditor/imageeditorlaw20.CoverSquares", spec := "coverSquares", unfollowed := true, recurses := true, apart := false, narrowed := true }
def CoverSquaresUptoSaid : Prop := coverSquaresUptoRow.holds Try.pinned (OpenSpec.upto coverSquaresSpec)

/-- 'imageeditorlaw20.CoverParts', WHERE WHAT IT READS IS OF BULK AT MOST 1048576: true; the input reads as it did. -/
def coverPartsUptoRow : OpenClaim := { program := "ytbgfgadekmemeaa", sum := "65860403185dd50da2573d13fc834d4a0f93f267896310c2a5b3364b436702a3", func := "imageeditor/imageeditorlaw20.CoverParts", spec := "coverParts", unfollowed := true, recurses := true, apart := false, narrowed := true }
def CoverPartsUptoSaid : Prop := coverPartsUptoRow.holds Try.pinned (OpenSpec.upto coverPartsSpec)

/-- 'imageeditorlaw20.CoverMoves', WHERE WHAT IT READS IS OF BULK AT MOST 1048576: true; the input reads as it did. -/
def coverMovesUptoRow : OpenClaim := { program := "ytbgfgadekmemeaa", sum := "65860403185dd50da2573d13fc834d4a0f93f267896310c2a5b3364b436702a3", func := "imageeditor/imageeditorlaw20.CoverMoves", spec := "coverMoves", unfollowed := true, recurses := true, apart := false, narrowed := true }
def CoverMovesUptoSaid : Prop := coverMovesUptoRow.holds Try.pinned (OpenSpec.upto coverMovesSpec)

end Rows
end Go.Proofs.Ytbgfgadekmemeaa

/-
  No cell of these rows narrows 'for every input' (looked for: loops, veiled, ifaces, maps, wideKeys, modest, calm, conditions, laid).
  DERIVED. THE GIVEN ROWS OF THIS SEAT. 11 by the template 'for every input the law returns true; each argument reads behind the call as it read before'; 0 by the template 'total and deterministic' (their statements: YtkeildnpemiacaaTotals.lean).
  GIVEN WITH THE SEED: the statements are not yours to turn. If you find one false, say at which input.
  Laid BY PROGRAM, IN A SANDBOX (cutbox-rows.mjs): the forced cells as the released guide's own fill.sh prints them over the translation 1c6327890d24f97d… (all of the seat's roots in one cut). By AI agents, Wed Nov 11 2026. No macro, syntax, notation, axiom, sorry.
-/
import Derived.Test.YtkeildnpemiacaaChecked
import GoSem.Claim
import GoSem.ClaimJoined
import GoSem.ClaimMapViews
import Derived.JoinedTies
import Derived.KernelRfl
namespace Go.Proofs.Ytkeildnpemiacaa
/- THE CELL 'sum', in the pinned program and in every row, IS THE sha256 OF THE DUMP (.gsa) THAT YtkeildnpemiacaaProg.lean LOADS. Nothing in Lean hashes anything: it is a label: what it is worth is what the hold of that sum in a sandbox is worth. -/
noncomputable def Try.pinned : Pinned := { name := "ytkeildnpemiacaa", sum := "1c6327890d24f97d025c9f5a898f6bb466b784dd54186da40d38377cfcee5653", checked := Try.checked }
namespace Rows
def none {H : Type} : Left H := { results := [], args := [] }

/-- 'imageeditorlaw23.MaskReads': WHATEVER THE INPUT: true; the input reads as it did. -/
def maskReadsSpec : ChangeSpec := { name := "maskReads", fn := fun _ => fun
  | [d1, d2, d3, d4] => { results := [.lit (.bool true)], args := [d1, d2, d3, d4] }
  | _ => none }
def maskReadsRow : OpenClaim := { program := "ytkeildnpemiacaa", sum := "1c6327890d24f97d025c9f5a898f6bb466b784dd54186da40d38377cfcee5653", func := "imageeditor/imageeditorlaw23.MaskReads", spec := "maskReads", unfollowed := true, recurses := true, apart := false }
def MaskReadsSaid : Prop := maskReadsRow.holds Try.pinned (OpenSpec.ofChange maskReadsSpec)

/-- ITS FALSE NEIGHBOUR: 'it returns false'. Refute it at one input. -/
def maskReadsWrong : ChangeSpec := { name := "maskReads", fn := fun _ => fun
  | [d1, d2, d3, d4] => { results := [.lit (.bool false)], args := [d1, d2, d3, d4] }
  | _ => none }
def MaskReadsWrongFalsely : Prop := maskReadsRow.holds Try.pinned (OpenSpec.ofChange maskReadsWrong)

/-- 'imageeditorlaw23.MaskPolygons': WHATEVER THE INPUT: true; the input reads as it did. -/
def maskPolygonsSpec : ChangeSpec := { name := "maskPolygons", fn := fun _ => fun
  | [d1, d2, d3] => { results := [.lit (.bool true)], args := [d1, d2, d3] }
  | _ => none }
def maskPolygonsRow : OpenClaim := { program := "ytkeildnpemiacaa", sum := "1c6327890d24f97d025c9f5a898f6bb466b784dd54186da40d38377cfcee5653", func := "imageeditor/imageeditorlaw23.MaskPolygons", spec := "maskPolygons", unfollowed := true, recurses := true, apart := false }
def MaskPolygonsSaid : Prop := maskPolygonsRow.holds Try.pinned (OpenSpec.ofChange maskPolygonsSpec)

/-- ITS FALSE NEIGHBOUR: 'it returns false'. Refute it at one input. -/
def maskPolygonsWrong : ChangeSpec := { name := "maskPolygons", fn := fun _ => fun
  | [d1, d2, d3] => { results := [.lit (.bool false)], args := [d1, d2, d3] }
  | _ => none }
def MaskPolygonsWrongFalsely : Prop := maskPolygonsRow.holds Try.pinned (OpenSpec.ofChange maskPolygonsWrong)

/-- 'imageeditorlaw23.MaskMakes': WHATEVER THE INPUT: true; the input reads as it did. -/
def maskMakesSpec : ChangeSpec := { name := "maskMakes", fn := fun _ => fun
  | [d1, d2, d3, d4, d5] => { results := [.lit (.bool true)], args := [d1, d2, d3, d4, d5] }
  | _ => none }
def maskMakesRow : OpenClaim := { program := "ytkeildnpemiacaa", sum := "1c6327890d24f97d025c9f5a898f6bb466b784dd54186da40d38377cfcee5653", func := "imageeditor/imageeditorlaw23.MaskMakes", spec := "maskMakes", unfollowed := true, recurses := true, apart := false }
def MaskMakesSaid : Prop := maskMakesRow.holds Try.pinned (OpenSpec.ofChange maskMakesSpec)

/-- ITS FALSE NEIGHBOUR: 'it returns false'. Refute it at one input. -/
def maskMakesWrong : ChangeSpec := { name := "maskMakes", fn := fun _ => fun
  | [d1, d2, d3, d4, d5] => { results := [.lit (.bool false)], args := [d1, d2, d3, d4, d5] }
  | _ => none }
def MaskMakesWrongFalsely : Prop := maskMakesRow.holds Try.pinned (OpenSpec.ofChange maskMakesWrong)

/-- 'imageeditorlaw23.MaskSoft': WHATEVER THE INPUT: true; the input reads as it did. -/
def maskSoftSpec : ChangeSpec := { name := "maskSoft", fn := fun _ => fun
  | [d1, d2, d3] => { results := [.lit (.bool true)], args := [d1, d2, d3] }
  | _ => none }
def maskSoftRow : OpenClaim := { program := "ytkeildnpemiacaa", sum := "1c6327890d24f97d025c9f5a898f6bb466b784dd54186da40d38377cfcee5653", func := "imageeditor/imageeditorlaw23.MaskSoft", spec := "maskSoft", unfollowed := true, recurses := true, apart := false }
def MaskSoftSaid : Prop := maskSoftRow.holds Try.pinned (OpenSpec.ofChange maskSoftSpec)

/-- ITS FALSE NEIGHBOUR: 'it returns false'. Refute it at one input. -/
def maskSoftWrong : ChangeSpec := { name := "maskSoft", fn := fun _ => fun
  | [d1, d2, d3] => { results := [.lit (.bool false)], args := [d1, d2, d3] }
  | _ => none }
def MaskSoftWrongFalsely : Prop := maskSoftRow.holds Try.pinned (OpenSpec.ofChange maskSoftWrong)

/-- 'imageeditorlaw23.MaskImages': WHATEVER THE INPUT: true; the input reads as it did. -/
def maskImagesSpec : ChangeSpec := { name := "maskImages", fn := fun _ => fun
  | [d1, d2, d3] => { results := [.lit (.bool true)], args := [d1, d2, d3] }
  | _ => none }
def maskImagesRow : OpenClaim := { program := "ytkeildnpemiacaa", sum := "1c6327890d24f97d025c9f5a898f6bb466b784dd54186da40d38377cfcee5653", func := "imageeditor/imageeditorlaw23.MaskImages", spec := "maskImages", unfollowed := true, recurses := true, apart := false }
def MaskImagesSaid : Prop := maskImagesRow.holds Try.pinned (OpenSpec.ofChange maskImagesSpec)

/-- ITS FALSE NEIGHBOUR: 'it returns false'. Refute it at one input. -/
def maskImagesWrong : ChangeSpec := { name := "maskImages", fn := fun _ => fun
  | [d1, d2, d3] => { results := [.lit (.bool false)], args := [d1, d2, d3] }
  | _ => none }
def MaskImagesWrongFalsely : Prop := maskImagesRow.holds Try.pinned (OpenSpec.ofChange maskImagesWrong)

/-- 'imageeditorlaw23.MaskPlain': WHATEVER THE INPUT: true; the input reads as it did. -/
def maskPlainSpec : ChangeSpec := { name := "maskPlain", fn := fun _ => fun
  | [d1, d2, d3, d4, d5, d6] => { results := [.lit (.bool true)], args := [d1, d2, d3, d4, d5, d6] }
  | _ => none }
def maskPlainRow : OpenClaim := { program := "ytkeildnpemiacaa", sum := "1c6327890d24f97d025c9f5a898f6bb466b784dd54186da40d38377cfcee5653", func := "imageeditor/imageeditorlaw23.MaskPlain", spec := "maskPlain", unfollowed := true, recurses := true, apart := false }
def MaskPlainSaid : Prop := maskPlainRow.holds Try.pinned (OpenSpec.ofChange maskPlainSpec)

/-- ITS FALSE NEIGHBOUR: 'it returns false'. Refute it at one input. -/
def maskPlainWrong : ChangeSpec := { name := "maskPlain", fn := fun _ => fun
  | [d1, d2, d3, d4, d5, d6] => { results := [.lit (.bool false)], args := [d1, d2, d3, d4, d5, d6] }
  | _ => none }
def MaskPlainWrongFalsely : Prop := maskPlainRow.holds Try.pinned (OpenSpec.ofChange maskPlainWrong)

/-- 'imageeditorlaw23.MaskOutside': WHATEVER THE INPUT: true; the input reads as it did. -/
def maskOutsideSpec : ChangeSpec := { name := "maskOutside", fn := fun _ => fun
  | [d1, d2, d3] => { results := [.lit (.bool true)], args := [d1, d2, d3] }
  | _ => none }
def maskOutsideRow : OpenClaim := { program := "ytkeildnpemiacaa", sum := "1c6327890d24f97d025c9f5a898f6bb466b784dd54186da40d38377cfcee5653", func := "imageeditor/imageeditorlaw23.MaskOutside", spec := "maskOutside", unfollowed := true, recurses := true, apart := false }
def MaskOutsideSaid : Prop := maskOutsideRow.holds Try.pinned (OpenSpec.ofChange maskOutsideSpec)

/-- ITS FALSE NEIGHBOUR: 'it returns false'. Refute it at one input. -/
def maskOutsideWrong : ChangeSpec := { name := "maskOutside", fn := fun _ => fun
  | [d1, d2, d3] => { results := [.lit (.bool false)], args := [d1, d2, d3] }
  | _ => none }
def MaskOutsideWrongFalsely : Prop := maskOutsideRow.holds Try.pinned (OpenSpec.ofChange maskOutsideWrong)

/-- 'imageeditorlaw23.MaskRounds': WHATEVER THE INPUT: true; the input reads as it did. -/
def maskRoundsSpec : ChangeSpec := { name := "maskRounds", fn := fun _ => fun
  | [d1, d2] => { results := [.lit (.bool true)], args := [d1, d2] }
  | _ => none }
def maskRoundsRow : OpenClaim := { program := "ytkeildnpemiacaa", sum := "1c6327890d24f97d025c9f5a898f6bb466b784dd54186da40d38377cfcee5653", func := "imageeditor/imageeditorlaw23.MaskRounds", spec := "maskRounds", unfollowed := true, recurses := true, apart := false }
def MaskRoundsSaid : Prop := maskRoundsRow.holds Try.pinned (OpenSpec.ofChange maskRoundsSpec)

/-- ITS FALSE NEIGHBOUR: 'it returns false'. Refute it at one input. -/
def maskRoundsWrong : ChangeSpec := { name := "maskRounds", fn := fun _ => fun
  | [d1, d2] => { results := [.lit (.bool false)], args := [d1, d2] }
  | _ => none }
def MaskRoundsWrongFalsely : Prop := maskRoundsRow.holds Try.pinned (OpenSpec.ofChange maskRoundsWrong)

/-- 'imageeditorlaw23.MaskCombines': WHATEVER THE INPUT: true; the input reads as it did. -/
def maskCombinesSpec : ChangeSpec := { name := "maskCombines", fn := fun _ => fun
  | [d1, d2, d3] => { results := [.lit (.bool true)], args := [d1, d2, d3] }
  | _ => none }
def maskCombinesRow : OpenClaim := { program := "ytkeildnpemiacaa", sum := "1c6327890d24f97d025c9f5a898f6bb466b784dd54186da40d38377cfcee5653", func := "imageeditor/imageeditorlaw23.MaskCombines", spec := "maskCombines", unfollowed := true, recurses := true, apart := false }
def MaskCombinesSaid : Prop := maskCombinesRow.holds Try.pinned (OpenSpec.ofChange maskCombinesSpec)

/-- ITS FALSE NEIGHBOUR: 'it returns false'. Refute it at one input. -/
def maskCombinesWrong : ChangeSpec := { name := "maskCombines", fn := fun _ => fun
  | [d1, d2, d3] => { results := [.lit (.bool false)], args := [d1, d2, d3] }
  | _ => none }
def MaskCombinesWrongFalsely : Prop := maskCombinesRow.holds Try.pinned (OpenSpec.ofChange maskCombinesWrong)

/-- 'imageeditorlaw23.MaskAlgebra': WHATEVER THE INPUT: true; the input reads as it did. -/
def maskAlgebraSpec : ChangeSpec := { name := "maskAlgebra", fn := fun _ => fun
  | [d1, d2] => { results := [.lit (.bool true)], args := [d1, d2] }
  | _ => none }
def maskAlgebraRow : OpenClaim := { program := "ytkeildnpemiacaa", sum := "1c6327890d24f97d025c9f5a898f6bb466b784dd54186da40d38377cfcee5653", func := "imageeditor/imageeditorlaw23.MaskAlgebra", spec := "maskAlgebra", unfollowed := true, recurses := true, apart := false }
def MaskAlgebraSaid : Prop := maskAlgebraRow.holds Try.pinned (OpenSpec.ofChange maskAlgebraSpec)

/-- ITS FALSE NEIGHBOUR: 'it returns false'. Refute it at one input. -/
def maskAlgebraWrong : ChangeSpec := { name := "maskAlgebra", fn := fun _ => fun
  | [d1, d2] => { results := [.lit (.bool false)], args := [d1, d2] }
  | _ => none }
def MaskAlgebraWrongFalsely : Prop := maskAlgebraRow.holds Try.pinned (OpenSpec.ofChange maskAlgebraWrong)

/-- 'imageeditorlaw23.MaskGrows': WHATEVER THE INPUT: true; the input reads as it did. -/
def maskGrowsSpec : ChangeSpec := { name := "maskGrows", fn := fun _ => fun
  | [d1, d2] => { results := [.lit (.bool true)], args := [d1, d2] }
  | _ => none }
def maskGrowsRow : OpenClaim := { program := "ytkeildnpemiacaa", sum := "1c6327890d24f97d025c9f5a898f6bb466b784dd54186da40d38377cfcee5653", func := "imageeditor/imageeditorlaw23.MaskGrows", spec := "maskGrows", unfollowed := true, recurses := true, apart := false }
def MaskGrowsSaid : Prop := maskGrowsRow.holds Try.pinned (OpenSpec.ofChange maskGrowsSpec)

/-- ITS FALSE NEIGHBOUR: 'it returns false'. Refute it at one input. -/
def maskGrowsWrong : ChangeSpec := { name := "maskGrows", fn := fun _ => fun
  | [d1, d2] => { results := [.lit (.bool false)], args := [d1, d2] }
  | _ => none }
def MaskGrowsWrongFalsely : Prop := maskGrowsRow.holds Try.pinned (OpenSpec.ofChange maskGrowsWrong)

/- THE SECOND FORM. 'bulk': how many values and letters a reading holds, each counted each time it is reached (what is shared counts as often as it is met; a slice's spare places count too). A statement '..UptoSaid' is the law's where the arguments, and the package variables that the reading takes, are together of bulk at most 1048576: NARROWER than '..Said'. Prove '..Said' where nothing that the law and all that it calls make is longer than what came in: it says more and counts as full. Else prove '..UptoSaid'. A law counts once. -/
mutual
def uptoBulk {H : Type} : DataW H → Nat
  | .lit (.string bytes) => bytes.length + 1
  | .lit _ => 1
  | .nil => 1
  | .ptr d => uptoBulk d + 1
  | .slice elems spare => uptoBulkAll elems + uptoBulkAll spare + 1
  | .agg parts => uptoBulkAll parts + 1
  | .iface _ d => uptoBulk d + 1
  | .map entries => uptoBulkEntries entries + 1
  | .held _ => 1
def uptoBulkAll {H : Type} : List (DataW H) → Nat
  | [] => 0
  | d :: r => uptoBulk d + uptoBulkAll r
def uptoBulkEntries {H : Type} : List (Lit × DataW H) → Nat
  | [] => 0
  | x :: r => uptoBulkEntry x + uptoBulkEntries r
def uptoBulkEntry {H : Type} : Lit × DataW H → Nat
  | (.string bytes, d) => bytes.length + uptoBulk d + 1
  | (_, d) => uptoBulk d + 1
 end
def uptoSmall : (H : Type) → List (DataW H) → Bool := fun _ ds => decide (uptoBulkAll ds ≤ 1048576)
def OpenSpec.upto (s : _root_.Go.ChangeSpec) : _root_.Go.OpenSpec := { _root_.Go.OpenSpec.ofChange s with cond := some uptoSmall }

/-- 'imageeditorlaw23.MaskReads', WHERE WHAT IT READS IS OF BULK AT MOST 1048576: true; the input reads as it did. -/
def maskReadsUptoRow : OpenClaim := { program := "ytkeildnpemiacaa", sum := "1c6327890d24f97d025c9f5a898f6bb466b784dd54186da40d38377cfcee5653", func := "imageeditor/imageeditorlaw23.MaskReads", spec := "maskReads", unfollowed := true, recurses := true, apart := false, narrowed := true }
def MaskReadsUptoSaid : Prop := maskReadsUptoRow.holds Try.pinned (OpenSpec.upto maskReadsSpec)

/-- 'imageeditorlaw23.MaskPolygons', WHERE WHAT IT READS IS OF BULK AT MOST 1048576: true; the input reads as it did. -/
def maskPolygonsUptoRow : OpenClaim := { program := "ytkeildnpemiacaa", sum := "1c6327890d24f97d025c9f5a898f6bb466b784dd54186da40d38377cfcee5653", func := "imageeditor/imageeditorlaw23.MaskPolygons", spec := "maskPolygons", unfollowed := true, recurses := true, apart := false, narrowed := true }
def MaskPolygonsUptoSaid : Prop := maskPolygonsUptoRow.holds Try.pinned (OpenSpec.upto maskPolygonsSpec)

/-- 'imageeditorlaw23.MaskMakes', WHERE WHAT IT READS IS OF BULK AT MOST 1048576: true; the input reads as it did. -/
def maskMakesUptoRow : OpenClaim := { program := "ytkeildnpemiacaa", sum := "1c6327890d24f97d025c9f5a898f6bb466b784dd54186da40d38377cfcee5653", func := "imageeditor/imageeditorlaw23.MaskMakes", spec := "maskMakes", unfollowed := true, recurses := true, apart := false, narrowed := true }
def MaskMakesUptoSaid : Prop := maskMakesUptoRow.holds Try.pinned (OpenSpec.upto maskMakesSpec)

/-- 'imageeditorlaw23.MaskSoft', WHERE WHAT IT READS IS OF BULK AT MOST 1048576: true; the input reads as it did. -/
def maskSoftUptoRow : OpenClaim := { program := "ytkeildnpemiacaa", sum := "1c6327890d24f97d025c9f5a898f6bb466b784dd54186da40d38377cfcee5653", func := "imageeditor/imageeditorlaw23.MaskSoft", spec := "maskSoft", unfollowed := true, recurses := true, apart := false, narrowed := true }
def MaskSoftUptoSaid : Prop := maskSoftUptoRow.holds Try.pinned (OpenSpec.upto maskSoftSpec)

/-- 'imageeditorlaw23.MaskImages', WHERE WHAT IT READS IS OF BULK AT MOST 1048576: true; the input reads as it did. -/
def maskImagesUptoRow : OpenClaim := { program := "ytkeildnpemiacaa", sum := "1c6327890d24f97d025c9f5a898f6bb466b784dd54186da40d38377cfcee5653", func := "imageeditor/imageeditorlaw23.MaskImages", spec := "maskImages", unfollowed := true, recurses := true, apart := false, narrowed := true }
def MaskImagesUptoSaid : Prop := maskImagesUptoRow.holds Try.pinned (OpenSpec.upto maskImagesSpec)

/-- 'imageeditorlaw23.MaskPlain', WHERE WHAT IT READS IS OF BULK AT MOST 1048576: true; the input reads as it did. -/
def maskPlainUptoRow : OpenClaim := { program := "ytkeildnpemiacaa", sum := "1c6327890d24f97d025c9f5a898f6bb466b784dd54186da40d38377cfcee5653", func := "imageeditor/imageeditorlaw23.MaskPlain", spec := "maskPlain", unfollowed := true, recurses := true, apart := false, narrowed := true }
def MaskPlainUptoSaid : Prop := maskPlainUptoRow.holds Try.pinned (OpenSpec.upto maskPlainSpec)

/-- 'imageeditorlaw23.MaskOutside', WHERE WHAT IT READS IS OF BULK AT MOST 1048576: true; the input reads as it did. -/
def maskOutsideUptoRow : OpenClaim := { program := "ytkeildnpemiacaa", sum := "1c6327890d24f97d025c9f5a898f6bb466b784dd54186da40d38377cfcee5653", func := "imageeditor/imageeditorlaw23.MaskOutside", spec := "maskOutside", unfollowed := true, recurses := true, apart := false, narrowed := true }
def MaskOutsideUptoSaid : Prop := maskOutsideUptoRow.holds Try.pinned (OpenSpec.upto maskOutsideSpec)

/-- 'imageeditorlaw23.MaskRounds', WHERE WHAT IT READS IS OF BULK AT MOST 1048576: true; the input reads as it did. -/
def maskRoundsUptoRow : OpenClaim := { program := "ytkeildnpemiacaa", sum := "1c6327890d24f97d025c9f5a898f6bb466b784dd54186da40d38377cfcee5653", func := "imageeditor/imageeditorlaw23.MaskRounds", spec := "maskRounds", unfollowed := true, recurses := true, apart := false, narrowed := true }
def MaskRoundsUptoSaid : Prop := maskRoundsUptoRow.holds Try.pinned (OpenSpec.upto maskRoundsSpec)

/-- 'imageeditorlaw23.MaskCombines', WHERE WHAT IT READS IS OF BULK AT MOST 1048576: true; the input reads as it did. -/
def maskCombinesUptoRow : OpenClaim := { program := "ytkeildnpemiacaa", sum := "1c6327890d24f97d025c9f5a898f6bb466b784dd54186da40d38377cfcee5653", func := "imageeditor/imageeditorlaw23.MaskCombines", spec := "maskCombines", unfollowed := true, recurses := true, apart := false, narrowed := true }
def MaskCombinesUptoSaid : Prop := maskCombinesUptoRow.holds Try.pinned (OpenSpec.upto maskCombinesSpec)

/-- 'imageeditorlaw23.MaskAlgebra', WHERE WHAT IT READS IS OF BULK AT MOST 1048576: true; the input reads as it did. -/
def maskAlgebraUptoRow : OpenClaim := { program := "ytkeildnpemiacaa", sum := "1c6327890d24f97d025c9f5a898f6bb466b784dd54186da40d38377cfcee5653", func := "imageeditor/imageeditorlaw23.MaskAlgebra", spec := "maskAlgebra", unfollowed := true, recurses := true, apart := false, narrowed := true }
def MaskAlgebraUptoSaid : Prop := maskAlgebraUptoRow.holds Try.pinned (OpenSpec.upto maskAlgebraSpec)

/-- 'imageeditorlaw23.MaskGrows', WHERE WHAT IT READS IS OF BULK AT MOST 1048576: true; the input reads as it did. -/
def maskGrowsUptoRow : OpenClaim := { program := "ytkeildnpemiacaa", sum := "1c6327890d24f97d025c9f5a898f6bb466b784dd54186da40d38377cfcee5653", func := "imageeditor/imageeditorlaw23.MaskGrows", spec := "maskGrows", unfollowed := true, recurses := true, apart := false, narrowed := true }
def MaskGrowsUptoSaid : Prop := maskGrowsUptoRow.holds Try.pinned (OpenSpec.upto maskGrowsSpec)

end Rows
end Go.Proofs.Ytkeildnpemiacaa

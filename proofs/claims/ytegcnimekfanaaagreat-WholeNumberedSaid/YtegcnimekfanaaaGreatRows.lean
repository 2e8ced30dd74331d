/-
  No cell of these rows narrows 'for every input' (looked for: loops, veiled, ifaces, maps, wideKeys, modest, calm, conditions, laid).
  DERIVED. THE GIVEN ROWS OF THIS SEAT. 3 by the template 'for every input the law returns true; each argument reads behind the call as it read before'; 0 by the template 'total and deterministic' (their statements: YtegcnimekfanaaaGreatTotals.lean).
  GIVEN WITH THE SEED: the statements are not yours to turn. If you find one false, say at which input.
  Laid BY PROGRAM, IN A SANDBOX (cutbox-rows.mjs): the forced cells as the released guide's own fill.sh prints them over the translation 7b3dde12f3559ff8… (all of the seat's roots in one cut). By AI agents, Wed Nov 11 2026. No macro, syntax, notation, axiom, sorry.
-/
import Derived.Test.YtegcnimekfanaaaGreatChecked
import GoSem.Claim
import GoSem.ClaimJoined
import GoSem.ClaimMapViews
import Derived.JoinedTies
import Derived.KernelRfl
namespace Go.Proofs.YtegcnimekfanaaaGreat
/- THE CELL 'sum', in the pinned program and in every row, IS THE sha256 OF THE DUMP (.gsa) THAT YtegcnimekfanaaaGreatProg.lean LOADS. Nothing in Lean hashes anything: it is a label: what it is worth is what the hold of that sum in a sandbox is worth. -/
noncomputable def Tryz.pinned : Pinned := { name := "ytegcnimekfanaaagreat", sum := "7b3dde12f3559ff8bc4fb679f6e85fac07bfce5c3c3ae8b4375b759a96559fff", checked := Tryz.checked }
namespace Rows
def none {H : Type} : Left H := { results := [], args := [] }

/-- 'armoiretop.WholeNumbered': WHATEVER THE INPUT: true; the input reads as it did. -/
def wholeNumberedSpec : ChangeSpec := { name := "wholeNumbered", fn := fun _ => fun
  | [d1, d2, d3] => { results := [.lit (.bool true)], args := [d1, d2, d3] }
  | _ => none }
def wholeNumberedRow : OpenClaim := { program := "ytegcnimekfanaaagreat", sum := "7b3dde12f3559ff8bc4fb679f6e85fac07bfce5c3c3ae8b4375b759a96559fff", func := "armoire/armoiretop.WholeNumbered", spec := "wholeNumbered", unfollowed := true, recurses := true, apart := false }
def WholeNumberedSaid : Prop := wholeNumberedRow.holds Tryz.pinned (OpenSpec.ofChange wholeNumberedSpec)

/-- ITS FALSE NEIGHBOUR: 'it returns false'. Refute it at one input. -/
def wholeNumberedWrong : ChangeSpec := { name := "wholeNumbered", fn := fun _ => fun
  | [d1, d2, d3] => { results := [.lit (.bool false)], args := [d1, d2, d3] }
  | _ => none }
def WholeNumberedWrongFalsely : Prop := wholeNumberedRow.holds Tryz.pinned (OpenSpec.ofChange wholeNumberedWrong)

/-- 'armoiretop.WholeLogMoved': WHATEVER THE INPUT: true; the input reads as it did. -/
def wholeLogMovedSpec : ChangeSpec := { name := "wholeLogMoved", fn := fun _ => fun
  | [d1, d2, d3, d4, d5] => { results := [.lit (.bool true)], args := [d1, d2, d3, d4, d5] }
  | _ => none }
def wholeLogMovedRow : OpenClaim := { program := "ytegcnimekfanaaagreat", sum := "7b3dde12f3559ff8bc4fb679f6e85fac07bfce5c3c3ae8b4375b759a96559fff", func := "armoire/armoiretop.WholeLogMoved", spec := "wholeLogMoved", unfollowed := true, recurses := true, apart := false }
def WholeLogMovedSaid : Prop := wholeLogMovedRow.holds Tryz.pinned (OpenSpec.ofChange wholeLogMovedSpec)

/-- ITS FALSE NEIGHBOUR: 'it returns false'. Refute it at one input. -/
def wholeLogMovedWrong : ChangeSpec := { name := "wholeLogMoved", fn := fun _ => fun
  | [d1, d2, d3, d4, d5] => { results := [.lit (.bool false)], args := [d1, d2, d3, d4, d5] }
  | _ => none }
def WholeLogMovedWrongFalsely : Prop := wholeLogMovedRow.holds Tryz.pinned (OpenSpec.ofChange wholeLogMovedWrong)

/-- 'armoiretop.WholeSteps': WHATEVER THE INPUT: true; the input reads as it did. -/
def wholeStepsSpec : ChangeSpec := { name := "wholeSteps", fn := fun _ => fun
  | [d1, d2, d3] => { results := [.lit (.bool true)], args := [d1, d2, d3] }
  | _ => none }
def wholeStepsRow : OpenClaim := { program := "ytegcnimekfanaaagreat", sum := "7b3dde12f3559ff8bc4fb679f6e85fac07bfce5c3c3ae8b4375b759a96559fff", func := "armoire/armoiretop.WholeSteps", spec := "wholeSteps", inPlace := ["slices.overlaps[armoire/value.Row]"], unfollowed := true, recurses := true, apart := false }
def WholeStepsSaid : Prop := wholeStepsRow.holds Tryz.pinned (OpenSpec.ofChange wholeStepsSpec)

/-- ITS FALSE NEIGHBOUR: 'it returns false'. Refute it at one input. -/
def wholeStepsWrong : ChangeSpec := { name := "wholeSteps", fn := fun _ => fun
  | [d1, d2, d3] => { results := [.lit (.bool false)], args := [d1, d2, d3] }
  | _ => none }
def WholeStepsWrongFalsely : Prop := wholeStepsRow.holds Tryz.pinned (OpenSpec.ofChange wholeStepsWrong)

/- THE SECOND FORM. 'bulk': how many values and letters a reading holds, each counted each time it is reached (what is shared counts as often as it is met; a slice's spare places count too). A statement '..UptoSaid' is the law's where the arguments, and the package variables that the reading takes, are together of bulk at most 1048576: NARROWER than '..Said'. Prove '..Said' where nothing that the law and all that it calls make is longer than what came in: it says more and counts as full. Else prove '..UptoSaid'. A law counts once. -/
mutual
def uptoBulk {H : Type} : DataW H → Nat
  | .lit (.string bytes) => bytes.length + 1
  | .lit _ => 1
  | .nil => 1
  | .ptr d => uptoBulk d + 1
  | .slice elems spare => uptoBulkAll elems + uptoBulkAll spare + 1
  | .agg parts => uptoBulkAll parts + 1
  | .iface _ d => uptoBulk d + 1
  | .map entries => uptoBulkEntries entries + 1
  | .held _ => 1
def uptoBulkAll {H : Type} : List (DataW H) → Nat
  | [] => 0
  | d :: r => uptoBulk d + uptoBulkAll r
def uptoBulkEntries {H : Type} : List (Lit × DataW H) → Nat
  | [] => 0
  | x :: r => uptoBulkEntry x + uptoBulkEntries r
def uptoBulkEntry {H : Type} : Lit × DataW H → Nat
  | (.string bytes, d) => bytes.length + uptoBulk d + 1
  | (_, d) => uptoBulk d + 1
 end
def uptoSmall : (H : Type) → List (DataW H) → Bool := fun _ ds => decide (uptoBulkAll ds ≤ 1048576)
def OpenSpec.upto (s : _root_.Go.ChangeSpec) : _root_.Go.OpenSpec := { _root_.Go.OpenSpec.ofChange s with cond := some uptoSmall }

/-- 'armoiretop.WholeNumbered', WHERE WHAT IT READS IS OF BULK AT MOST 1048576: true; the input reads as it did. -/
def wholeNumberedUptoRow : OpenClaim := { program := "ytegcnimekfanaaagreat", sum := "7b3dde12f3559ff8bc4fb679f6e85fac07bfce5c3c3ae8b4375b759a96559fff", func := "armoire/armoiretop.WholeNumbered", spec := "wholeNumbered", unfollowed := true, recurses := true, apart := false, narrowed := true }
def WholeNumberedUptoSaid : Prop := wholeNumberedUptoRow.holds Tryz.pinned (OpenSpec.upto wholeNumberedSpec)

/-- 'armoiretop.WholeLogMoved', WHERE WHAT IT READS IS OF BULK AT MOST 1048576: true; the input reads as it did. -/
def wholeLogMovedUptoRow : OpenClaim := { program := "ytegcnimekfanaaagreat", sum := "7b3dde12f3559ff8bc4fb679f6e85fac07bfce5c3c3ae8b4375b759a96559fff", func := "armoire/armoiretop.WholeLogMoved", spec := "wholeLogMoved", unfollowed := true, recurses := true, apart := false, narrowed := true }
def WholeLogMovedUptoSaid : Prop := wholeLogMovedUptoRow.holds Tryz.pinned (OpenSpec.upto wholeLogMovedSpec)

/-- 'armoiretop.WholeSteps', WHERE WHAT IT READS IS OF BULK AT MOST 1048576: true; the input reads as it did. -/
def wholeStepsUptoRow : OpenClaim := { program := "ytegcnimekfanaaagreat", sum := "7b3dde12f3559ff8bc4fb679f6e85fac07bfce5c3c3ae8b4375b759a96559fff", func := "armoire/armoiretop.WholeSteps", spec := "wholeSteps", inPlace := ["slices.overlaps[armoire/value.Row]"], unfollowed := true, recurses := true, apart := false, narrowed := true }
def WholeStepsUptoSaid : Prop := wholeStepsUptoRow.holds Tryz.pinned (OpenSpec.upto wholeStepsSpec)

end Rows
end Go.Proofs.YtegcnimekfanaaaGreat

/-
  No cell of these rows narrows 'for every input' (looked for: loops, veiled, ifaces, maps, wideKeys, modest, calm, conditions, laid).
  DERIVED. THE GIVEN ROWS OF THIS SEAT. 4 by the template 'for every input the law returns true; each argument reads behind the call as it read before'; 0 by the template 'total and deterministic' (their statements: YtbpfmpldbafepaaTotals.lean).
  GIVEN WITH THE SEED: the statements are not yours to turn. If you find one false, say at which input.
  Laid BY PROGRAM, IN A SANDBOX (cutbox-rows.mjs): the forced cells as the released guide's own fill.sh prints them over the translation c18d291a5aabeca1… (all of the seat's roots in one cut). By AI agents, Wed Nov 11 2026. No macro, syntax, notation, axiom, sorry.
-/
import Derived.Test.YtbpfmpldbafepaaChecked
import GoSem.Claim
import GoSem.ClaimJoined
import GoSem.ClaimMapViews
import Derived.JoinedTies
import Derived.KernelRfl
namespace Go.Proofs.Ytbpfmpldbafepaa
/- THE CELL 'sum', in the pinned program and in every row, IS THE sha256 OF THE DUMP (.gsa) THAT YtbpfmpldbafepaaProg.lean LOADS. Nothing in Lean hashes anything: it is a label: what it is worth is what the hold of that sum in a sandbox is worth. -/
noncomputable def Try.pinned : Pinned := { name := "ytbpfmpldbafepaa", sum := "c18d291a5aabeca15e41f1d918061cbe4cf337f07ad7d5d4fde72f8000059299", checked := Try.checked }
namespace Rows
def none {H : Type} : Left H := { results := [], args := [] }

/-- 'withylaw24.Targets': WHATEVER THE INPUT: true; the input reads as it did. -/
def targetsSpec : ChangeSpec := { name := "targets", fn := fun _ => fun
  | [d1, d2] => { results := [.lit (.bool true)], args := [d1, d2] }
  | _ => none }
def targetsRow : OpenClaim := { program := "ytbpfmpldbafepaa", sum := "c18d291a5aabeca15e41f1d918061cbe4cf337f07ad7d5d4fde72f8000059299", func := "withy/withylaw24.Targets", spec := "targets", apart := false }
def TargetsSaid : Prop := targetsRow.holds Try.pinned (OpenSpec.ofChange targetsSpec)

/-- ITS FALSE NEIGHBOUR: 'it returns false'. Refute it at one input. -/
def targetsWrong : ChangeSpec := { name := "targets", fn := fun _ => fun
  | [d1, d2] => { results := [.lit (.bool false)], args := [d1, d2] }
  | _ => none }
def TargetsWrongFalsely : Prop := targetsRow.holds Try.pinned (OpenSpec.ofChange targetsWrong)

/-- 'withylaw24.TargetGrows': WHATEVER THE INPUT: true; the input reads as it did. -/
def targetGrowsSpec : ChangeSpec := { name := "targetGrows", fn := fun _ => fun
  | [d1, d2, d3] => { results := [.lit (.bool true)], args := [d1, d2, d3] }
  | _ => none }
def targetGrowsRow : OpenClaim := { program := "ytbpfmpldbafepaa", sum := "c18d291a5aabeca15e41f1d918061cbe4cf337f07ad7d5d4fde72f8000059299", func := "withy/withylaw24.TargetGrows", spec := "targetGrows", apart := false }
def TargetGrowsSaid : Prop := targetGrowsRow.holds Try.pinned (OpenSpec.ofChange targetGrowsSpec)

/-- ITS FALSE NEIGHBOUR: 'it returns false'. Refute it at one input. -/
def targetGrowsWrong : ChangeSpec := { name := "targetGrows", fn := fun _ => fun
  | [d1, d2, d3] => { results := [.lit (.bool false)], args := [d1, d2, d3] }
  | _ => none }
def TargetGrowsWrongFalsely : Prop := targetGrowsRow.holds Try.pinned (OpenSpec.ofChange targetGrowsWrong)

/-- 'withylaw24.TargetForms': WHATEVER THE INPUT: true; the input reads as it did. -/
def targetFormsSpec : ChangeSpec := { name := "targetForms", fn := fun _ => fun
  | [d1, d2] => { results := [.lit (.bool true)], args := [d1, d2] }
  | _ => none }
def targetFormsRow : OpenClaim := { program := "ytbpfmpldbafepaa", sum := "c18d291a5aabeca15e41f1d918061cbe4cf337f07ad7d5d4fde72f8000059299", func := "withy/withylaw24.TargetForms", spec := "targetForms", apart := false }
def TargetFormsSaid : Prop := targetFormsRow.holds Try.pinned (OpenSpec.ofChange targetFormsSpec)

/-- ITS FALSE NEIGHBOUR: 'it returns false'. Refute it at one input. -/
def targetFormsWrong : ChangeSpec := { name := "targetForms", fn := fun _ => fun
  | [d1, d2] => { results := [.lit (.bool false)], args := [d1, d2] }
  | _ => none }
def TargetFormsWrongFalsely : Prop := targetFormsRow.holds Try.pinned (OpenSpec.ofChange targetFormsWrong)

/-- 'withylaw24.TargetSteps': WHATEVER THE INPUT: true; the input reads as it did. -/
def targetStepsSpec : ChangeSpec := { name := "targetSteps", fn := fun _ => fun
  | [d1, d2] => { results := [.lit (.bool true)], args := [d1, d2] }
  | _ => none }
def targetStepsRow : OpenClaim := { program := "ytbpfmpldbafepaa", sum := "c18d291a5aabeca15e41f1d918061cbe4cf337f07ad7d5d4fde72f8000059299", func := "withy/withylaw24.TargetSteps", spec := "targetSteps", apart := false }
def TargetStepsSaid : Prop := targetStepsRow.holds Try.pinned (OpenSpec.ofChange targetStepsSpec)

/-- ITS FALSE NEIGHBOUR: 'it returns false'. Refute it at one input. -/
def targetStepsWrong : ChangeSpec := { name := "targetSteps", fn := fun _ => fun
  | [d1, d2] => { results := [.lit (.bool false)], args := [d1, d2] }
  | _ => none }
def TargetStepsWrongFalsely : Prop := targetStepsRow.holds Try.pinned (OpenSpec.ofChange targetStepsWrong)

/- THE SECOND FORM. 'bulk': how many values and letters a reading holds, each counted each time it is reached (what is shared counts as often as it is met; a slice's spare places count too). A statement '..UptoSaid' is the law's where the arguments, and the package variables that the reading takes, are together of bulk at most 1048576: NARROWER than '..Said'. Prove '..Said' where nothing that the law and all that it calls make is longer than what came in: it says more and counts as full. Else prove '..UptoSaid'. A law counts once. -/
mutual
def uptoBulk {H : Type} : DataW H → Nat
  | .lit (.string bytes) => bytes.length + 1
  | .lit _ => 1
  | .nil => 1
  | .ptr d => uptoBulk d + 1
  | .slice elems spare => uptoBulkAll elems + uptoBulkAll spare + 1
  | .agg parts => uptoBulkAll parts + 1
  | .iface _ d => uptoBulk d + 1
  | .map entries => uptoBulkEntries entries + 1
  | .held _ => 1
def uptoBulkAll {H : Type} : List (DataW H) → Nat
  | [] => 0
  | d :: r => uptoBulk d + uptoBulkAll r
def uptoBulkEntries {H : Type} : List (Lit × DataW H) → Nat
  | [] => 0
  | x :: r => uptoBulkEntry x + uptoBulkEntries r
def uptoBulkEntry {H : Type} : Lit × DataW H → Nat
  | (.string bytes, d) => bytes.length + uptoBulk d + 1
  | (_, d) => uptoBulk d + 1
 end
def uptoSmall : (H : Type) → List (DataW H) → Bool := fun _ ds => decide (uptoBulkAll ds ≤ 1048576)
def OpenSpec.upto (s : _root_.Go.ChangeSpec) : _root_.Go.OpenSpec := { _root_.Go.OpenSpec.ofChange s with cond := some uptoSmall }

/-- 'withylaw24.Targets', WHERE WHAT IT READS IS OF BULK AT MOST 1048576: true; the input reads as it did. -/
def targetsUptoRow : OpenClaim := { program := "ytbpfmpldbafepaa", sum := "c18d291a5aabeca15e41f1d918061cbe4cf337f07ad7d5d4fde72f8000059299", func := "withy/withylaw24.Targets", spec := "targets", apart := false, narrowed := true }
def TargetsUptoSaid : Prop := targetsUptoRow.holds Try.pinned (OpenSpec.upto targetsSpec)

/-- 'withylaw24.TargetGrows', WHERE WHAT IT READS IS OF BULK AT MOST 1048576: true; the input reads as it did. -/
def targetGrowsUptoRow : OpenClaim := { program := "ytbpfmpldbafepaa", sum := "c18d291a5aabeca15e41f1d918061cbe4cf337f07ad7d5d4fde72f8000059299", func := "withy/withylaw24.TargetGrows", spec := "targetGrows", apart := false, narrowed := true }
def TargetGrowsUptoSaid : Prop := targetGrowsUptoRow.holds Try.pinned (OpenSpec.upto targetGrowsSpec)

/-- 'withylaw24.TargetForms', WHERE WHAT IT READS IS OF BULK AT MOST 1048576: true; the input reads as it did. -/
def targetFormsUptoRow : OpenClaim := { program := "ytbpfmpldbafepaa", sum := "c18d291a5aabeca15e41f1d918061cbe4cf337f07ad7d5d4fde72f8000059299", func := "withy/withylaw24.TargetForms", spec := "targetForms", apart := false, narrowed := true }
def TargetFormsUptoSaid : Prop := targetFormsUptoRow.holds Try.pinned (OpenSpec.upto targetFormsSpec)

/-- 'withylaw24.TargetSteps', WHERE WHAT IT READS IS OF BULK AT MOST 1048576: true; the input reads as it did. -/
def targetStepsUptoRow : OpenClaim := { program := "ytbpfmpldbafepaa", sum := "c18d291a5aabeca15e41f1d918061cbe4cf337f07ad7d5d4fde72f8000059299", func := "withy/withylaw24.TargetSteps", spec := "targetSteps", apart := false, narrowed := true }
def TargetStepsUptoSaid : Prop := targetStepsUptoRow.holds Try.pinned (OpenSpec.upto targetStepsSpec)

end Rows
end Go.Proofs.Ytbpfmpldbafepaa

/-
  No cell of these rows narrows 'for every input' (looked for: loops, veiled, ifaces, maps, wideKeys, modest, calm, conditions, laid).
  DERIVED. THE GIVEN ROWS OF THIS SEAT. 5 by the template 'for every input the law returns true; each argument reads behind the call as it read before'; 0 by the template 'total and deterministic' (their statements: YthhhbnbhcedhmaaTotals.lean).
  GIVEN WITH THE SEED: the statements are not yours to turn. If you find one false, say at which input.
  Laid BY PROGRAM, IN A SANDBOX (cutbox-rows.mjs): the forced cells as the released guide's own fill.sh prints them over the translation eb1767baf082684d… (all of the seat's roots in one cut). By AI agents, Wed Nov 11 2026. No macro, syntax, notation, axiom, sorry.
-/
import Derived.Test.YthhhbnbhcedhmaaChecked
import GoSem.Claim
import GoSem.ClaimJoined
import GoSem.ClaimMapViews
import Derived.JoinedTies
import Derived.KernelRfl
namespace Go.Proofs.Ythhhbnbhcedhmaa
/- THE CELL 'sum', in the pinned program and in every row, IS THE sha256 OF THE DUMP (.gsa) THAT YthhhbnbhcedhmaaProg.lean LOADS. Nothing in Lean hashes anything: it is a label: what it is worth is what the hold of that sum in a sandbox is worth. -/
noncomputable def Try.pinned : Pinned := { name := "ythhhbnbhcedhmaa", sum := "eb1767baf082684d91f8a5eaf66609f93e8712118e22b1a96ff247051233becd", checked := Try.checked }
namespace Rows
def none {H : Type} : Left H := { results := [], args := [] }

/-- 'withylaw18.Splits': WHATEVER THE INPUT: true; the input reads as it did. -/
def splitsSpec : ChangeSpec := { name := "splits", fn := fun _ => fun
  | [d1, d2, d3, d4] => { results := [.lit (.bool true)], args := [d1, d2, d3, d4] }
  | _ => none }
def splitsRow : OpenClaim := { program := "ythhhbnbhcedhmaa", sum := "eb1767baf082684d91f8a5eaf66609f93e8712118e22b1a96ff247051233becd", func := "withy/withylaw18.Splits", spec := "splits", apart := false }
def SplitsSaid : Prop := splitsRow.holds Try.pinned (OpenSpec.ofChange splitsSpec)

/-- ITS FALSE NEIGHBOUR: 'it returns false'. Refute it at one input. -/
def splitsWrong : ChangeSpec := { name := "splits", fn := fun _ => fun
  | [d1, d2, d3, d4] => { results := [.lit (.bool false)], args := [d1, d2, d3, d4] }
  | _ => none }
def SplitsWrongFalsely : Prop := splitsRow.holds Try.pinned (OpenSpec.ofChange splitsWrong)

/-- 'withylaw18.SplitWhole': WHATEVER THE INPUT: true; the input reads as it did. -/
def splitWholeSpec : ChangeSpec := { name := "splitWhole", fn := fun _ => fun
  | [d1, d2, d3, d4] => { results := [.lit (.bool true)], args := [d1, d2, d3, d4] }
  | _ => none }
def splitWholeRow : OpenClaim := { program := "ythhhbnbhcedhmaa", sum := "eb1767baf082684d91f8a5eaf66609f93e8712118e22b1a96ff247051233becd", func := "withy/withylaw18.SplitWhole", spec := "splitWhole", apart := false }
def SplitWholeSaid : Prop := splitWholeRow.holds Try.pinned (OpenSpec.ofChange splitWholeSpec)

/-- ITS FALSE NEIGHBOUR: 'it returns false'. Refute it at one input. -/
def splitWholeWrong : ChangeSpec := { name := "splitWhole", fn := fun _ => fun
  | [d1, d2, d3, d4] => { results := [.lit (.bool false)], args := [d1, d2, d3, d4] }
  | _ => none }
def SplitWholeWrongFalsely : Prop := splitWholeRow.holds Try.pinned (OpenSpec.ofChange splitWholeWrong)

/-- 'withylaw18.SplitForms': WHATEVER THE INPUT: true; the input reads as it did. -/
def splitFormsSpec : ChangeSpec := { name := "splitForms", fn := fun _ => fun
  | [d1, d2, d3, d4] => { results := [.lit (.bool true)], args := [d1, d2, d3, d4] }
  | _ => none }
def splitFormsRow : OpenClaim := { program := "ythhhbnbhcedhmaa", sum := "eb1767baf082684d91f8a5eaf66609f93e8712118e22b1a96ff247051233becd", func := "withy/withylaw18.SplitForms", spec := "splitForms", apart := false }
def SplitFormsSaid : Prop := splitFormsRow.holds Try.pinned (OpenSpec.ofChange splitFormsSpec)

/-- ITS FALSE NEIGHBOUR: 'it returns false'. Refute it at one input. -/
def splitFormsWrong : ChangeSpec := { name := "splitForms", fn := fun _ => fun
  | [d1, d2, d3, d4] => { results := [.lit (.bool false)], args := [d1, d2, d3, d4] }
  | _ => none }
def SplitFormsWrongFalsely : Prop := splitFormsRow.holds Try.pinned (OpenSpec.ofChange splitFormsWrong)

/-- 'withylaw18.SplitOne': WHATEVER THE INPUT: true; the input reads as it did. -/
def splitOneSpec : ChangeSpec := { name := "splitOne", fn := fun _ => fun
  | [d1, d2, d3] => { results := [.lit (.bool true)], args := [d1, d2, d3] }
  | _ => none }
def splitOneRow : OpenClaim := { program := "ythhhbnbhcedhmaa", sum := "eb1767baf082684d91f8a5eaf66609f93e8712118e22b1a96ff247051233becd", func := "withy/withylaw18.SplitOne", spec := "splitOne", apart := false }
def SplitOneSaid : Prop := splitOneRow.holds Try.pinned (OpenSpec.ofChange splitOneSpec)

/-- ITS FALSE NEIGHBOUR: 'it returns false'. Refute it at one input. -/
def splitOneWrong : ChangeSpec := { name := "splitOne", fn := fun _ => fun
  | [d1, d2, d3] => { results := [.lit (.bool false)], args := [d1, d2, d3] }
  | _ => none }
def SplitOneWrongFalsely : Prop := splitOneRow.holds Try.pinned (OpenSpec.ofChange splitOneWrong)

/-- 'withylaw18.SplitNumbers': WHATEVER THE INPUT: true; the input reads as it did. -/
def splitNumbersSpec : ChangeSpec := { name := "splitNumbers", fn := fun _ => fun
  | [d1, d2, d3, d4, d5] => { results := [.lit (.bool true)], args := [d1, d2, d3, d4, d5] }
  | _ => none }
def splitNumbersRow : OpenClaim := { program := "ythhhbnbhcedhmaa", sum := "eb1767baf082684d91f8a5eaf66609f93e8712118e22b1a96ff247051233becd", func := "withy/withylaw18.SplitNumbers", spec := "splitNumbers", apart := false }
def SplitNumbersSaid : Prop := splitNumbersRow.holds Try.pinned (OpenSpec.ofChange splitNumbersSpec)

/-- ITS FALSE NEIGHBOUR: 'it returns false'. Refute it at one input. -/
def splitNumbersWrong : ChangeSpec := { name := "splitNumbers", fn := fun _ => fun
  | [d1, d2, d3, d4, d5] => { results := [.lit (.bool false)], args := [d1, d2, d3, d4, d5] }
  | _ => none }
def SplitNumbersWrongFalsely : Prop := splitNumbersRow.holds Try.pinned (OpenSpec.ofChange splitNumbersWrong)

/- THE SECOND FORM. 'bulk': how many values and letters a reading holds, each counted each time it is reached (what is shared counts as often as it is met; a slice's spare places count too). A statement '..UptoSaid' is the law's where the arguments, and the package variables that the reading takes, are together of bulk at most 1048576: NARROWER than '..Said'. Prove '..Said' where nothing that the law and all that it calls make is longer than what came in: it says more and counts as full. Else prove '..UptoSaid'. A law counts once. -/
mutual
def uptoBulk {H : Type} : DataW H → Nat
  | .lit (.string bytes) => bytes.length + 1
  | .lit _ => 1
  | .nil => 1
  | .ptr d => uptoBulk d + 1
  | .slice elems spare => uptoBulkAll elems + uptoBulkAll spare + 1
  | .agg parts => uptoBulkAll parts + 1
  | .iface _ d => uptoBulk d + 1
  | .map entries => uptoBulkEntries entries + 1
  | .held _ => 1
def uptoBulkAll {H : Type} : List (DataW H) → Nat
  | [] => 0
  | d :: r => uptoBulk d + uptoBulkAll r
def uptoBulkEntries {H : Type} : List (Lit × DataW H) → Nat
  | [] => 0
  | x :: r => uptoBulkEntry x + uptoBulkEntries r
def uptoBulkEntry {H : Type} : Lit × DataW H → Nat
  | (.string bytes, d) => bytes.length + uptoBulk d + 1
  | (_, d) => uptoBulk d + 1
 end
def uptoSmall : (H : Type) → List (DataW H) → Bool := fun _ ds => decide (uptoBulkAll ds ≤ 1048576)
def OpenSpec.upto (s : _root_.Go.ChangeSpec) : _root_.Go.OpenSpec := { _root_.Go.OpenSpec.ofChange s with cond := some uptoSmall }

/-- 'withylaw18.Splits', WHERE WHAT IT READS IS OF BULK AT MOST 1048576: true; the input reads as it did. -/
def splitsUptoRow : OpenClaim := { program := "ythhhbnbhcedhmaa", sum := "eb1767baf082684d91f8a5eaf66609f93e8712118e22b1a96ff247051233becd", func := "withy/withylaw18.Splits", spec := "splits", apart := false, narrowed := true }
def SplitsUptoSaid : Prop := splitsUptoRow.holds Try.pinned (OpenSpec.upto splitsSpec)

/-- 'withylaw18.SplitWhole', WHERE WHAT IT READS IS OF BULK AT MOST 1048576: true; the input reads as it did. -/
def splitWholeUptoRow : OpenClaim := { program := "ythhhbnbhcedhmaa", sum := "eb1767baf082684d91f8a5eaf66609f93e8712118e22b1a96ff247051233becd", func := "withy/withylaw18.SplitWhole", spec := "splitWhole", apart := false, narrowed := true }
def SplitWholeUptoSaid : Prop := splitWholeUptoRow.holds Try.pinned (OpenSpec.upto splitWholeSpec)

/-- 'withylaw18.SplitForms', WHERE WHAT IT READS IS OF BULK AT MOST 1048576: true; the input reads as it did. -/
def splitFormsUptoRow : OpenClaim := { program := "ythhhbnbhcedhmaa", sum := "eb1767baf082684d91f8a5eaf66609f93e8712118e22b1a96ff247051233becd", func := "withy/withylaw18.SplitForms", spec := "splitForms", apart := false, narrowed := true }
def SplitFormsUptoSaid : Prop := splitFormsUptoRow.holds Try.pinned (OpenSpec.upto splitFormsSpec)

/-- 'withylaw18.SplitOne', WHERE WHAT IT READS IS OF BULK AT MOST 1048576: true; the input reads as it did. -/
def splitOneUptoRow : OpenClaim := { program := "ythhhbnbhcedhmaa", sum := "eb1767baf082684d91f8a5eaf66609f93e8712118e22b1a96ff247051233becd", func := "withy/withylaw18.SplitOne", spec := "splitOne", apart := false, narrowed := true }
def SplitOneUptoSaid : Prop := splitOneUptoRow.holds Try.pinned (OpenSpec.upto splitOneSpec)

/-- 'withylaw18.SplitNumbers', WHERE WHAT IT READS IS OF BULK AT MOST 1048576: true; the input reads as it did. -/
def splitNumbersUptoRow : OpenClaim := { program := "ythhhbnbhcedhmaa", sum := "eb1767baf082684d91f8a5eaf66609f93e8712118e22b1a96ff247051233becd", func := "withy/withylaw18.SplitNumbers", spec := "splitNumbers", apart := false, narrowed := true }
def SplitNumbersUptoSaid : Prop := splitNumbersUptoRow.holds Try.pinned (OpenSpec.upto splitNumbersSpec)

end Rows
end Go.Proofs.Ythhhbnbhcedhmaa

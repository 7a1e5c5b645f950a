/-
  No cell of these rows narrows 'for every input' (looked for: loops, veiled, ifaces, maps, wideKeys, modest, calm, conditions, laid).
  DERIVED. THE GIVEN ROWS OF THIS SEAT. 4 by the template 'for every input the law returns true; each argument reads behind the call as it read before'; 0 by the template 'total and deterministic' (their statements: YtjcndeanojeffaaTotals.lean).
  GIVEN WITH THE SEED: the statements are not yours to turn. If you find one false, say at which input.
  Laid BY PROGRAM, IN A SANDBOX (cutbox-rows.mjs): the forced cells as the released guide's own fill.sh prints them over the translation db6d7be032336dde… (all of the seat's roots in one cut). By AI agents, Wed Nov 11 2026. No macro, syntax, notation, axiom, sorry.
-/
import Derived.Test.YtjcndeanojeffaaChecked
import GoSem.Claim
import GoSem.ClaimJoined
import GoSem.ClaimMapViews
import Derived.JoinedTies
import Derived.KernelRfl
namespace Go.Proofs.Ytjcndeanojeffaa
/- THE CELL 'sum', in the pinned program and in every row, IS THE sha256 OF THE DUMP (.gsa) THAT YtjcndeanojeffaaProg.lean LOADS. Nothing in Lean hashes anything: it is a label: what it is worth is what the hold of that sum in a sandbox is worth. -/
noncomputable def Try.pinned : Pinned := { name := "ytjcndeanojeffaa", sum := "db6d7be032336dde0e2fcacdbd686d0fa2d9d4d3bf970c314dec1742b1e31977", checked := Try.checked }
namespace Rows
def none {H : Type} : Left H := { results := [], args := [] }

/-- 'withylaw20.QueueDeals': WHATEVER THE INPUT: true; the input reads as it did. -/
def queueDealsSpec : ChangeSpec := { name := "queueDeals", fn := fun _ => fun
  | [d1, d2, d3] => { results := [.lit (.bool true)], args := [d1, d2, d3] }
  | _ => none }
def queueDealsRow : OpenClaim := { program := "ytjcndeanojeffaa", sum := "db6d7be032336dde0e2fcacdbd686d0fa2d9d4d3bf970c314dec1742b1e31977", func := "withy/withylaw20.QueueDeals", spec := "queueDeals", recurses := true, apart := false }
def QueueDealsSaid : Prop := queueDealsRow.holds Try.pinned (OpenSpec.ofChange queueDealsSpec)

/-- ITS FALSE NEIGHBOUR: 'it returns false'. Refute it at one input. -/
def queueDealsWrong : ChangeSpec := { name := "queueDeals", fn := fun _ => fun
  | [d1, d2, d3] => { results := [.lit (.bool false)], args := [d1, d2, d3] }
  | _ => none }
def QueueDealsWrongFalsely : Prop := queueDealsRow.holds Try.pinned (OpenSpec.ofChange queueDealsWrong)

/-- 'withylaw20.QueueFull': WHATEVER THE INPUT: true; the input reads as it did. -/
def queueFullSpec : ChangeSpec := { name := "queueFull", fn := fun _ => fun
  | [d] => { results := [.lit (.bool true)], args := [d] }
  | _ => none }
def queueFullRow : OpenClaim := { program := "ytjcndeanojeffaa", sum := "db6d7be032336dde0e2fcacdbd686d0fa2d9d4d3bf970c314dec1742b1e31977", func := "withy/withylaw20.QueueFull", spec := "queueFull", recurses := true, apart := false }
def QueueFullSaid : Prop := queueFullRow.holds Try.pinned (OpenSpec.ofChange queueFullSpec)

/-- ITS FALSE NEIGHBOUR: 'it returns false'. Refute it at one input. -/
def queueFullWrong : ChangeSpec := { name := "queueFull", fn := fun _ => fun
  | [d] => { results := [.lit (.bool false)], args := [d] }
  | _ => none }
def QueueFullWrongFalsely : Prop := queueFullRow.holds Try.pinned (OpenSpec.ofChange queueFullWrong)

/-- 'withylaw20.QueueLinks': WHATEVER THE INPUT: true; the input reads as it did. -/
def queueLinksSpec : ChangeSpec := { name := "queueLinks", fn := fun _ => fun
  | [d] => { results := [.lit (.bool true)], args := [d] }
  | _ => none }
def queueLinksRow : OpenClaim := { program := "ytjcndeanojeffaa", sum := "db6d7be032336dde0e2fcacdbd686d0fa2d9d4d3bf970c314dec1742b1e31977", func := "withy/withylaw20.QueueLinks", spec := "queueLinks", recurses := true, apart := false }
def QueueLinksSaid : Prop := queueLinksRow.holds Try.pinned (OpenSpec.ofChange queueLinksSpec)

/-- ITS FALSE NEIGHBOUR: 'it returns false'. Refute it at one input. -/
def queueLinksWrong : ChangeSpec := { name := "queueLinks", fn := fun _ => fun
  | [d] => { results := [.lit (.bool false)], args := [d] }
  | _ => none }
def QueueLinksWrongFalsely : Prop := queueLinksRow.holds Try.pinned (OpenSpec.ofChange queueLinksWrong)

/-- 'withylaw20.QueueDrains': WHATEVER THE INPUT: true; the input reads as it did. -/
def queueDrainsSpec : ChangeSpec := { name := "queueDrains", fn := fun _ => fun
  | [d1, d2, d3, d4] => { results := [.lit (.bool true)], args := [d1, d2, d3, d4] }
  | _ => none }
def queueDrainsRow : OpenClaim := { program := "ytjcndeanojeffaa", sum := "db6d7be032336dde0e2fcacdbd686d0fa2d9d4d3bf970c314dec1742b1e31977", func := "withy/withylaw20.QueueDrains", spec := "queueDrains", recurses := true, apart := false }
def QueueDrainsSaid : Prop := queueDrainsRow.holds Try.pinned (OpenSpec.ofChange queueDrainsSpec)

/-- ITS FALSE NEIGHBOUR: 'it returns false'. Refute it at one input. -/
def queueDrainsWrong : ChangeSpec := { name := "queueDrains", fn := fun _ => fun
  | [d1, d2, d3, d4] => { results := [.lit (.bool false)], args := [d1, d2, d3, d4] }
  | _ => none }
def QueueDrainsWrongFalsely : Prop := queueDrainsRow.holds Try.pinned (OpenSpec.ofChange queueDrainsWrong)

/- THE SECOND FORM. 'bulk': how many values and letters a reading holds, each counted each time it is reached (what is shared counts as often as it is met; a slice's spare places count too). A statement '..UptoSaid' is the law's where the arguments, and the package variables that the reading takes, are together of bulk at most 1048576: NARROWER than '..Said'. Prove '..Said' where nothing that the law and all that it calls make is longer than what came in: it says more and counts as full. Else prove '..UptoSaid'. A law counts once. -/
mutual
def uptoBulk {H : Type} : DataW H → Nat
  | .lit (.string bytes) => bytes.length + 1
  | .lit _ => 1
  | .nil => 1
  | .ptr d => uptoBulk d + 1
  | .slice elems spare => uptoBulkAll elems + uptoBulkAll spare + 1
  | .agg parts => uptoBulkAll parts + 1
  | .iface _ d => uptoBulk d + 1
  | .map entries => uptoBulkEntries entries + 1
  | .held _ => 1
def uptoBulkAll {H : Type} : List (DataW H) → Nat
  | [] => 0
  | d :: r => uptoBulk d + uptoBulkAll r
def uptoBulkEntries {H : Type} : List (Lit × DataW H) → Nat
  | [] => 0
  | x :: r => uptoBulkEntry x + uptoBulkEntries r
def uptoBulkEntry {H : Type} : Lit × DataW H → Nat
  | (.string bytes, d) => bytes.length + uptoBulk d + 1
  | (_, d) => uptoBulk d + 1
 end
def uptoSmall : (H : Type) → List (DataW H) → Bool := fun _ ds => decide (uptoBulkAll ds ≤ 1048576)
def OpenSpec.upto (s : _root_.Go.ChangeSpec) : _root_.Go.OpenSpec := { _root_.Go.OpenSpec.ofChange s with cond := some uptoSmall }

/-- 'withylaw20.QueueDeals', WHERE WHAT IT READS IS OF BULK AT MOST 1048576: true; the input reads as it did. -/
def queueDealsUptoRow : OpenClaim := { program := "ytjcndeanojeffaa", sum := "db6d7be032336dde0e2fcacdbd686d0fa2d9d4d3bf970c314dec1742b1e31977", func := "withy/withylaw20.QueueDeals", spec := "queueDeals", recurses := true, apart := false, narrowed := true }
def QueueDealsUptoSaid : Prop := queueDealsUptoRow.holds Try.pinned (OpenSpec.upto queueDealsSpec)

/-- 'withylaw20.QueueFull', WHERE WHAT IT READS IS OF BULK AT MOST 1048576: true; the input reads as it did. -/
def queueFullUptoRow : OpenClaim := { program := "ytjcndeanojeffaa", sum := "db6d7be032336dde0e2fcacdbd686d0fa2d9d4d3bf970c314dec1742b1e31977", func := "withy/withylaw20.QueueFull", spec := "queueFull", recurses := true, apart := false, narrowed := true }
def QueueFullUptoSaid : Prop := queueFullUptoRow.holds Try.pinned (OpenSpec.upto queueFullSpec)

/-- 'withylaw20.QueueLinks', WHERE WHAT IT READS IS OF BULK AT MOST 1048576: true; the input reads as it did. -/
def queueLinksUptoRow : OpenClaim := { program := "ytjcndeanojeffaa", sum := "db6d7be032336dde0e2fcacdbd686d0fa2d9d4d3bf970c314dec1742b1e31977", func := "withy/withylaw20.QueueLinks", spec := "queueLinks", recurses := true, apart := false, narrowed := true }
def QueueLinksUptoSaid : Prop := queueLinksUptoRow.holds Try.pinned (OpenSpec.upto queueLinksSpec)

/-- 'withylaw20.QueueDrains', WHERE WHAT IT READS IS OF BULK AT MOST 1048576: true; the input reads as it did. -/
def queueDrainsUptoRow : OpenClaim := { program := "ytjcndeanojeffaa", sum := "db6d7be032336dde0e2fcacdbd686d0fa2d9d4d3bf970c314dec1742b1e31977", func := "withy/withylaw20.QueueDrains", spec := "queueDrains", recurses := true, apart := false, narrowed := true }
def QueueDrainsUptoSaid : Prop := queueDrainsUptoRow.holds Try.pinned (OpenSpec.upto queueDrainsSpec)

end Rows
end Go.Proofs.Ytjcndeanojeffaa

/-
  No cell of these rows narrows 'for every input' (looked for: loops, veiled, ifaces, maps, wideKeys, modest, calm, conditions, laid).
  DERIVED. THE GIVEN ROWS OF THIS SEAT. 9 by the template 'for every input the law returns true; each argument reads behind the call as it read before'; 0 by the template 'total and deterministic' (their statements: YtcfgbfabokhjcaaTotals.lean).
  GIVEN WITH THE SEED: the statements are not yours to turn. If you find one false, say at which input.
  Laid BY PROGRAM, IN A SANDBOX (cutbox-rows.mjs): the forced cells as the released guide's own fill.sh prints them over the translation 821965abf3eb0657… (all of the seat's roots in one cut). By AI agents, Wed Nov 11 2026. No macro, syntax, notation, axiom, sorry.
-/
import Derived.Test.YtcfgbfabokhjcaaChecked
import GoSem.Claim
import GoSem.ClaimJoined
import GoSem.ClaimMapViews
import Derived.JoinedTies
import Derived.KernelRfl
namespace Go.Proofs.Ytcfgbfabokhjcaa
/- THE CELL 'sum', in the pinned program and in every row, IS THE sha256 OF THE DUMP (.gsa) THAT YtcfgbfabokhjcaaProg.lean LOADS. Nothing in Lean hashes anything: it is a label: what it is worth is what the hold of that sum in a sandbox is worth. -/
noncomputable def Try.pinned : Pinned := { name := "ytcfgbfabokhjcaa", sum := "821965abf3eb0657c5bbae890051552b79f65efe213592f004605595eba5fc9a", checked := Try.checked }
namespace Rows
def none {H : Type} : Left H := { results := [], args := [] }

/-- 'withylaw19.JoinActs': WHATEVER THE INPUT: true; the input reads as it did. -/
def joinActsSpec : ChangeSpec := { name := "joinActs", fn := fun _ => fun
  | [d1, d2, d3] => { results := [.lit (.bool true)], args := [d1, d2, d3] }
  | _ => none }
def joinActsRow : OpenClaim := { program := "ytcfgbfabokhjcaa", sum := "821965abf3eb0657c5bbae890051552b79f65efe213592f004605595eba5fc9a", func := "withy/withylaw19.JoinActs", spec := "joinActs", apart := false }
def JoinActsSaid : Prop := joinActsRow.holds Try.pinned (OpenSpec.ofChange joinActsSpec)

/-- ITS FALSE NEIGHBOUR: 'it returns false'. Refute it at one input. -/
def joinActsWrong : ChangeSpec := { name := "joinActs", fn := fun _ => fun
  | [d1, d2, d3] => { results := [.lit (.bool false)], args := [d1, d2, d3] }
  | _ => none }
def JoinActsWrongFalsely : Prop := joinActsRow.holds Try.pinned (OpenSpec.ofChange joinActsWrong)

/-- 'withylaw19.JoinLosses': WHATEVER THE INPUT: true; the input reads as it did. -/
def joinLossesSpec : ChangeSpec := { name := "joinLosses", fn := fun _ => fun
  | [d1, d2, d3, d4, d5] => { results := [.lit (.bool true)], args := [d1, d2, d3, d4, d5] }
  | _ => none }
def joinLossesRow : OpenClaim := { program := "ytcfgbfabokhjcaa", sum := "821965abf3eb0657c5bbae890051552b79f65efe213592f004605595eba5fc9a", func := "withy/withylaw19.JoinLosses", spec := "joinLosses", apart := false }
def JoinLossesSaid : Prop := joinLossesRow.holds Try.pinned (OpenSpec.ofChange joinLossesSpec)

/-- ITS FALSE NEIGHBOUR: 'it returns false'. Refute it at one input. -/
def joinLossesWrong : ChangeSpec := { name := "joinLosses", fn := fun _ => fun
  | [d1, d2, d3, d4, d5] => { results := [.lit (.bool false)], args := [d1, d2, d3, d4, d5] }
  | _ => none }
def JoinLossesWrongFalsely : Prop := joinLossesRow.holds Try.pinned (OpenSpec.ofChange joinLossesWrong)

/-- 'withylaw19.JoinOrder': WHATEVER THE INPUT: true; the input reads as it did. -/
def joinOrderSpec : ChangeSpec := { name := "joinOrder", fn := fun _ => fun
  | [d1, d2] => { results := [.lit (.bool true)], args := [d1, d2] }
  | _ => none }
def joinOrderRow : OpenClaim := { program := "ytcfgbfabokhjcaa", sum := "821965abf3eb0657c5bbae890051552b79f65efe213592f004605595eba5fc9a", func := "withy/withylaw19.JoinOrder", spec := "joinOrder", apart := false }
def JoinOrderSaid : Prop := joinOrderRow.holds Try.pinned (OpenSpec.ofChange joinOrderSpec)

/-- ITS FALSE NEIGHBOUR: 'it returns false'. Refute it at one input. -/
def joinOrderWrong : ChangeSpec := { name := "joinOrder", fn := fun _ => fun
  | [d1, d2] => { results := [.lit (.bool false)], args := [d1, d2] }
  | _ => none }
def JoinOrderWrongFalsely : Prop := joinOrderRow.holds Try.pinned (OpenSpec.ofChange joinOrderWrong)

/-- 'withylaw19.JoinGap': WHATEVER THE INPUT: true; the input reads as it did. -/
def joinGapSpec : ChangeSpec := { name := "joinGap", fn := fun _ => fun
  | [d1, d2] => { results := [.lit (.bool true)], args := [d1, d2] }
  | _ => none }
def joinGapRow : OpenClaim := { program := "ytcfgbfabokhjcaa", sum := "821965abf3eb0657c5bbae890051552b79f65efe213592f004605595eba5fc9a", func := "withy/withylaw19.JoinGap", spec := "joinGap", apart := false }
def JoinGapSaid : Prop := joinGapRow.holds Try.pinned (OpenSpec.ofChange joinGapSpec)

/-- ITS FALSE NEIGHBOUR: 'it returns false'. Refute it at one input. -/
def joinGapWrong : ChangeSpec := { name := "joinGap", fn := fun _ => fun
  | [d1, d2] => { results := [.lit (.bool false)], args := [d1, d2] }
  | _ => none }
def JoinGapWrongFalsely : Prop := joinGapRow.holds Try.pinned (OpenSpec.ofChange joinGapWrong)

/-- 'withylaw19.JoinOld': WHATEVER THE INPUT: true; the input reads as it did. -/
def joinOldSpec : ChangeSpec := { name := "joinOld", fn := fun _ => fun
  | [d1, d2] => { results := [.lit (.bool true)], args := [d1, d2] }
  | _ => none }
def joinOldRow : OpenClaim := { program := "ytcfgbfabokhjcaa", sum := "821965abf3eb0657c5bbae890051552b79f65efe213592f004605595eba5fc9a", func := "withy/withylaw19.JoinOld", spec := "joinOld", apart := false }
def JoinOldSaid : Prop := joinOldRow.holds Try.pinned (OpenSpec.ofChange joinOldSpec)

/-- ITS FALSE NEIGHBOUR: 'it returns false'. Refute it at one input. -/
def joinOldWrong : ChangeSpec := { name := "joinOld", fn := fun _ => fun
  | [d1, d2] => { results := [.lit (.bool false)], args := [d1, d2] }
  | _ => none }
def JoinOldWrongFalsely : Prop := joinOldRow.holds Try.pinned (OpenSpec.ofChange joinOldWrong)

/-- 'withylaw19.JoinRing': WHATEVER THE INPUT: true; the input reads as it did. -/
def joinRingSpec : ChangeSpec := { name := "joinRing", fn := fun _ => fun
  | [d1, d2] => { results := [.lit (.bool true)], args := [d1, d2] }
  | _ => none }
def joinRingRow : OpenClaim := { program := "ytcfgbfabokhjcaa", sum := "821965abf3eb0657c5bbae890051552b79f65efe213592f004605595eba5fc9a", func := "withy/withylaw19.JoinRing", spec := "joinRing", apart := false }
def JoinRingSaid : Prop := joinRingRow.holds Try.pinned (OpenSpec.ofChange joinRingSpec)

/-- ITS FALSE NEIGHBOUR: 'it returns false'. Refute it at one input. -/
def joinRingWrong : ChangeSpec := { name := "joinRing", fn := fun _ => fun
  | [d1, d2] => { results := [.lit (.bool false)], args := [d1, d2] }
  | _ => none }
def JoinRingWrongFalsely : Prop := joinRingRow.holds Try.pinned (OpenSpec.ofChange joinRingWrong)

/-- 'withylaw19.JoinLinks': WHATEVER THE INPUT: true; the input reads as it did. -/
def joinLinksSpec : ChangeSpec := { name := "joinLinks", fn := fun _ => fun
  | [d] => { results := [.lit (.bool true)], args := [d] }
  | _ => none }
def joinLinksRow : OpenClaim := { program := "ytcfgbfabokhjcaa", sum := "821965abf3eb0657c5bbae890051552b79f65efe213592f004605595eba5fc9a", func := "withy/withylaw19.JoinLinks", spec := "joinLinks", apart := false }
def JoinLinksSaid : Prop := joinLinksRow.holds Try.pinned (OpenSpec.ofChange joinLinksSpec)

/-- ITS FALSE NEIGHBOUR: 'it returns false'. Refute it at one input. -/
def joinLinksWrong : ChangeSpec := { name := "joinLinks", fn := fun _ => fun
  | [d] => { results := [.lit (.bool false)], args := [d] }
  | _ => none }
def JoinLinksWrongFalsely : Prop := joinLinksRow.holds Try.pinned (OpenSpec.ofChange joinLinksWrong)

/-- 'withylaw19.JoinMost': WHATEVER THE INPUT: true; the input reads as it did. -/
def joinMostSpec : ChangeSpec := { name := "joinMost", fn := fun _ => fun
  | [d1, d2] => { results := [.lit (.bool true)], args := [d1, d2] }
  | _ => none }
def joinMostRow : OpenClaim := { program := "ytcfgbfabokhjcaa", sum := "821965abf3eb0657c5bbae890051552b79f65efe213592f004605595eba5fc9a", func := "withy/withylaw19.JoinMost", spec := "joinMost", apart := false }
def JoinMostSaid : Prop := joinMostRow.holds Try.pinned (OpenSpec.ofChange joinMostSpec)

/-- ITS FALSE NEIGHBOUR: 'it returns false'. Refute it at one input. -/
def joinMostWrong : ChangeSpec := { name := "joinMost", fn := fun _ => fun
  | [d1, d2] => { results := [.lit (.bool false)], args := [d1, d2] }
  | _ => none }
def JoinMostWrongFalsely : Prop := joinMostRow.holds Try.pinned (OpenSpec.ofChange joinMostWrong)

/-- 'withylaw19.JoinTwice': WHATEVER THE INPUT: true; the input reads as it did. -/
def joinTwiceSpec : ChangeSpec := { name := "joinTwice", fn := fun _ => fun
  | [d1, d2] => { results := [.lit (.bool true)], args := [d1, d2] }
  | _ => none }
def joinTwiceRow : OpenClaim := { program := "ytcfgbfabokhjcaa", sum := "821965abf3eb0657c5bbae890051552b79f65efe213592f004605595eba5fc9a", func := "withy/withylaw19.JoinTwice", spec := "joinTwice", apart := false }
def JoinTwiceSaid : Prop := joinTwiceRow.holds Try.pinned (OpenSpec.ofChange joinTwiceSpec)

/-- ITS FALSE NEIGHBOUR: 'it returns false'. Refute it at one input. -/
def joinTwiceWrong : ChangeSpec := { name := "joinTwice", fn := fun _ => fun
  | [d1, d2] => { results := [.lit (.bool false)], args := [d1, d2] }
  | _ => none }
def JoinTwiceWrongFalsely : Prop := joinTwiceRow.holds Try.pinned (OpenSpec.ofChange joinTwiceWrong)

/- THE SECOND FORM. 'bulk': how many values and letters a reading holds, each counted each time it is reached (what is shared counts as often as it is met; a slice's spare places count too). A statement '..UptoSaid' is the law's where the arguments, and the package variables that the reading takes, are together of bulk at most 1048576: NARROWER than '..Said'. Prove '..Said' where nothing that the law and all that it calls make is longer than what came in: it says more and counts as full. Else prove '..UptoSaid'. A law counts once. -/
mutual
def uptoBulk {H : Type} : DataW H → Nat
  | .lit (.string bytes) => bytes.length + 1
  | .lit _ => 1
  | .nil => 1
  | .ptr d => uptoBulk d + 1
  | .slice elems spare => uptoBulkAll elems + uptoBulkAll spare + 1
  | .agg parts => uptoBulkAll parts + 1
  | .iface _ d => uptoBulk d + 1
  | .map entries => uptoBulkEntries entries + 1
  | .held _ => 1
def uptoBulkAll {H : Type} : List (DataW H) → Nat
  | [] => 0
  | d :: r => uptoBulk d + uptoBulkAll r
def uptoBulkEntries {H : Type} : List (Lit × DataW H) → Nat
  | [] => 0
  | x :: r => uptoBulkEntry x + uptoBulkEntries r
def uptoBulkEntry {H : Type} : Lit × DataW H → Nat
  | (.string bytes, d) => bytes.length + uptoBulk d + 1
  | (_, d) => uptoBulk d + 1
 end
def uptoSmall : (H : Type) → List (DataW H) → Bool := fun _ ds => decide (uptoBulkAll ds ≤ 1048576)
def OpenSpec.upto (s : _root_.Go.ChangeSpec) : _root_.Go.OpenSpec := { _root_.Go.OpenSpec.ofChange s with cond := some uptoSmall }

/-- 'withylaw19.JoinActs', WHERE WHAT IT READS IS OF BULK AT MOST 1048576: true; the input reads as it did. -/
def joinActsUptoRow : OpenClaim := { program := "ytcfgbfabokhjcaa", sum := "821965abf3eb0657c5bbae890051552b79f65efe213592f004605595eba5fc9a", func := "withy/withylaw19.JoinActs", spec := "joinActs", apart := false, narrowed := true }
def JoinActsUptoSaid : Prop := joinActsUptoRow.holds Try.pinned (OpenSpec.upto joinActsSpec)

/-- 'withylaw19.JoinLosses', WHERE WHAT IT READS IS OF BULK AT MOST 1048576: true; the input reads as it did. -/
def joinLossesUptoRow : OpenClaim := { program := "ytcfgbfabokhjcaa", sum := "821965abf3eb0657c5bbae890051552b79f65efe213592f004605595eba5fc9a", func := "withy/withylaw19.JoinLosses", spec := "joinLosses", apart := false, narrowed := true }
def JoinLossesUptoSaid : Prop := joinLossesUptoRow.holds Try.pinned (OpenSpec.upto joinLossesSpec)

/-- 'withylaw19.JoinOrder', WHERE WHAT IT READS IS OF BULK AT MOST 1048576: true; the input reads as it did. -/
def joinOrderUptoRow : OpenClaim := { program := "ytcfgbfabokhjcaa", sum := "821965abf3eb0657c5bbae890051552b79f65efe213592f004605595eba5fc9a", func := "withy/withylaw19.JoinOrder", spec := "joinOrder", apart := false, narrowed := true }
def JoinOrderUptoSaid : Prop := joinOrderUptoRow.holds Try.pinned (OpenSpec.upto joinOrderSpec)

/-- 'withylaw19.JoinGap', WHERE WHAT IT READS IS OF BULK AT MOST 1048576: true; the input reads as it did. -/
def joinGapUptoRow : OpenClaim := { program := "ytcfgbfabokhjcaa", sum := "821965abf3eb0657c5bbae890051552b79f65efe213592f004605595eba5fc9a", func := "withy/withylaw19.JoinGap", spec := "joinGap", apart := false, narrowed := true }
def JoinGapUptoSaid : Prop := joinGapUptoRow.holds Try.pinned (OpenSpec.upto joinGapSpec)

/-- 'withylaw19.JoinOld', WHERE WHAT IT READS IS OF BULK AT MOST 1048576: true; the input reads as it did. -/
def joinOldUptoRow : OpenClaim := { program := "ytcfgbfabokhjcaa", sum := "821965abf3eb0657c5bbae890051552b79f65efe213592f004605595eba5fc9a", func := "withy/withylaw19.JoinOld", spec := "joinOld", apart := false, narrowed := true }
def JoinOldUptoSaid : Prop := joinOldUptoRow.holds Try.pinned (OpenSpec.upto joinOldSpec)

/-- 'withylaw19.JoinRing', WHERE WHAT IT READS IS OF BULK AT MOST 1048576: true; the input reads as it did. -/
def joinRingUptoRow : OpenClaim := { program := "ytcfgbfabokhjcaa", sum := "821965abf3eb0657c5bbae890051552b79f65efe213592f004605595eba5fc9a", func := "withy/withylaw19.JoinRing", spec := "joinRing", apart := false, narrowed := true }
def JoinRingUptoSaid : Prop := joinRingUptoRow.holds Try.pinned (OpenSpec.upto joinRingSpec)

/-- 'withylaw19.JoinLinks', WHERE WHAT IT READS IS OF BULK AT MOST 1048576: true; the input reads as it did. -/
def joinLinksUptoRow : OpenClaim := { program := "ytcfgbfabokhjcaa", sum := "821965abf3eb0657c5bbae890051552b79f65efe213592f004605595eba5fc9a", func := "withy/withylaw19.JoinLinks", spec := "joinLinks", apart := false, narrowed := true }
def JoinLinksUptoSaid : Prop := joinLinksUptoRow.holds Try.pinned (OpenSpec.upto joinLinksSpec)

/-- 'withylaw19.JoinMost', WHERE WHAT IT READS IS OF BULK AT MOST 1048576: true; the input reads as it did. -/
def joinMostUptoRow : OpenClaim := { program := "ytcfgbfabokhjcaa", sum := "821965abf3eb0657c5bbae890051552b79f65efe213592f004605595eba5fc9a", func := "withy/withylaw19.JoinMost", spec := "joinMost", apart := false, narrowed := true }
def JoinMostUptoSaid : Prop := joinMostUptoRow.holds Try.pinned (OpenSpec.upto joinMostSpec)

/-- 'withylaw19.JoinTwice', WHERE WHAT IT READS IS OF BULK AT MOST 1048576: true; the input reads as it did. -/
def joinTwiceUptoRow : OpenClaim := { program := "ytcfgbfabokhjcaa", sum := "821965abf3eb0657c5bbae890051552b79f65efe213592f004605595eba5fc9a", func := "withy/withylaw19.JoinTwice", spec := "joinTwice", apart := false, narrowed := true }
def JoinTwiceUptoSaid : Prop := joinTwiceUptoRow.holds Try.pinned (OpenSpec.upto joinTwiceSpec)

end Rows
end Go.Proofs.Ytcfgbfabokhjcaa

/-
  No cell of these rows narrows 'for every input' (looked for: loops, veiled, ifaces, maps, wideKeys, modest, calm, conditions, laid).
  DERIVED. THE GIVEN ROWS OF THIS SEAT. 7 by the template 'for every input the law returns true; each argument reads behind the call as it read before'; 0 by the template 'total and deterministic' (their statements: YtpgjlkbjejlinaaTotals.lean).
  GIVEN WITH THE SEED: the statements are not yours to turn. If you find one false, say at which input.
  Laid BY PROGRAM, IN A SANDBOX (cutbox-rows.mjs): the forced cells as the released guide's own fill.sh prints them over the translation 0b0733b499262da0… (all of the seat's roots in one cut). By AI agents, Wed Nov 11 2026. No macro, syntax, notation, axiom, sorry.
-/
import Derived.Test.YtpgjlkbjejlinaaChecked
import GoSem.Claim
import GoSem.ClaimJoined
import GoSem.ClaimMapViews
import Derived.JoinedTies
import Derived.KernelRfl
namespace Go.Proofs.Ytpgjlkbjejlinaa
/- THE CELL 'sum', in the pinned program and in every row, IS THE sha256 OF THE DUMP (.gsa) THAT YtpgjlkbjejlinaaProg.lean LOADS. Nothing in Lean hashes anything: it is a label: what it is worth is what the hold of that sum in a sandbox is worth. -/
noncomputable def Try.pinned : Pinned := { name := "ytpgjlkbjejlinaa", sum := "0b0733b499262da09c45c254d2706a28c1208c1e8f62ba96e92d3a83249724c2", checked := Try.checked }
namespace Rows
def none {H : Type} : Left H := { results := [], args := [] }

/-- 'withylaw23.Meters': WHATEVER THE INPUT: true; the input reads as it did. -/
def metersSpec : ChangeSpec := { name := "meters", fn := fun _ => fun
  | [d1, d2, d3, d4, d5, d6] => { results := [.lit (.bool true)], args := [d1, d2, d3, d4, d5, d6] }
  | _ => none }
def metersRow : OpenClaim := { program := "ytpgjlkbjejlinaa", sum := "0b0733b499262da09c45c254d2706a28c1208c1e8f62ba96e92d3a83249724c2", func := "withy/withylaw23.Meters", spec := "meters", apart := false }
def MetersSaid : Prop := metersRow.holds Try.pinned (OpenSpec.ofChange metersSpec)

/-- ITS FALSE NEIGHBOUR: 'it returns false'. Refute it at one input. -/
def metersWrong : ChangeSpec := { name := "meters", fn := fun _ => fun
  | [d1, d2, d3, d4, d5, d6] => { results := [.lit (.bool false)], args := [d1, d2, d3, d4, d5, d6] }
  | _ => none }
def MetersWrongFalsely : Prop := metersRow.holds Try.pinned (OpenSpec.ofChange metersWrong)

/-- 'withylaw23.MeterSteady': WHATEVER THE INPUT: true; the input reads as it did. -/
def meterSteadySpec : ChangeSpec := { name := "meterSteady", fn := fun _ => fun
  | [d1, d2, d3, d4] => { results := [.lit (.bool true)], args := [d1, d2, d3, d4] }
  | _ => none }
def meterSteadyRow : OpenClaim := { program := "ytpgjlkbjejlinaa", sum := "0b0733b499262da09c45c254d2706a28c1208c1e8f62ba96e92d3a83249724c2", func := "withy/withylaw23.MeterSteady", spec := "meterSteady", apart := false }
def MeterSteadySaid : Prop := meterSteadyRow.holds Try.pinned (OpenSpec.ofChange meterSteadySpec)

/-- ITS FALSE NEIGHBOUR: 'it returns false'. Refute it at one input. -/
def meterSteadyWrong : ChangeSpec := { name := "meterSteady", fn := fun _ => fun
  | [d1, d2, d3, d4] => { results := [.lit (.bool false)], args := [d1, d2, d3, d4] }
  | _ => none }
def MeterSteadyWrongFalsely : Prop := meterSteadyRow.holds Try.pinned (OpenSpec.ofChange meterSteadyWrong)

/-- 'withylaw23.MeterRoom': WHATEVER THE INPUT: true; the input reads as it did. -/
def meterRoomSpec : ChangeSpec := { name := "meterRoom", fn := fun _ => fun
  | [d1, d2, d3] => { results := [.lit (.bool true)], args := [d1, d2, d3] }
  | _ => none }
def meterRoomRow : OpenClaim := { program := "ytpgjlkbjejlinaa", sum := "0b0733b499262da09c45c254d2706a28c1208c1e8f62ba96e92d3a83249724c2", func := "withy/withylaw23.MeterRoom", spec := "meterRoom", apart := false }
def MeterRoomSaid : Prop := meterRoomRow.holds Try.pinned (OpenSpec.ofChange meterRoomSpec)

/-- ITS FALSE NEIGHBOUR: 'it returns false'. Refute it at one input. -/
def meterRoomWrong : ChangeSpec := { name := "meterRoom", fn := fun _ => fun
  | [d1, d2, d3] => { results := [.lit (.bool false)], args := [d1, d2, d3] }
  | _ => none }
def MeterRoomWrongFalsely : Prop := meterRoomRow.holds Try.pinned (OpenSpec.ofChange meterRoomWrong)

/-- 'withylaw23.MeterForms': WHATEVER THE INPUT: true; the input reads as it did. -/
def meterFormsSpec : ChangeSpec := { name := "meterForms", fn := fun _ => fun
  | [d1, d2, d3, d4, d5, d6] => { results := [.lit (.bool true)], args := [d1, d2, d3, d4, d5, d6] }
  | _ => none }
def meterFormsRow : OpenClaim := { program := "ytpgjlkbjejlinaa", sum := "0b0733b499262da09c45c254d2706a28c1208c1e8f62ba96e92d3a83249724c2", func := "withy/withylaw23.MeterForms", spec := "meterForms", apart := false }
def MeterFormsSaid : Prop := meterFormsRow.holds Try.pinned (OpenSpec.ofChange meterFormsSpec)

/-- ITS FALSE NEIGHBOUR: 'it returns false'. Refute it at one input. -/
def meterFormsWrong : ChangeSpec := { name := "meterForms", fn := fun _ => fun
  | [d1, d2, d3, d4, d5, d6] => { results := [.lit (.bool false)], args := [d1, d2, d3, d4, d5, d6] }
  | _ => none }
def MeterFormsWrongFalsely : Prop := meterFormsRow.holds Try.pinned (OpenSpec.ofChange meterFormsWrong)

/-- 'withylaw23.MeterHold': WHATEVER THE INPUT: true; the input reads as it did. -/
def meterHoldSpec : ChangeSpec := { name := "meterHold", fn := fun _ => fun
  | [d1, d2] => { results := [.lit (.bool true)], args := [d1, d2] }
  | _ => none }
def meterHoldRow : OpenClaim := { program := "ytpgjlkbjejlinaa", sum := "0b0733b499262da09c45c254d2706a28c1208c1e8f62ba96e92d3a83249724c2", func := "withy/withylaw23.MeterHold", spec := "meterHold", apart := false }
def MeterHoldSaid : Prop := meterHoldRow.holds Try.pinned (OpenSpec.ofChange meterHoldSpec)

/-- ITS FALSE NEIGHBOUR: 'it returns false'. Refute it at one input. -/
def meterHoldWrong : ChangeSpec := { name := "meterHold", fn := fun _ => fun
  | [d1, d2] => { results := [.lit (.bool false)], args := [d1, d2] }
  | _ => none }
def MeterHoldWrongFalsely : Prop := meterHoldRow.holds Try.pinned (OpenSpec.ofChange meterHoldWrong)

/-- 'withylaw23.MeterWindow': WHATEVER THE INPUT: true; the input reads as it did. -/
def meterWindowSpec : ChangeSpec := { name := "meterWindow", fn := fun _ => fun
  | [d1, d2, d3] => { results := [.lit (.bool true)], args := [d1, d2, d3] }
  | _ => none }
def meterWindowRow : OpenClaim := { program := "ytpgjlkbjejlinaa", sum := "0b0733b499262da09c45c254d2706a28c1208c1e8f62ba96e92d3a83249724c2", func := "withy/withylaw23.MeterWindow", spec := "meterWindow", apart := false }
def MeterWindowSaid : Prop := meterWindowRow.holds Try.pinned (OpenSpec.ofChange meterWindowSpec)

/-- ITS FALSE NEIGHBOUR: 'it returns false'. Refute it at one input. -/
def meterWindowWrong : ChangeSpec := { name := "meterWindow", fn := fun _ => fun
  | [d1, d2, d3] => { results := [.lit (.bool false)], args := [d1, d2, d3] }
  | _ => none }
def MeterWindowWrongFalsely : Prop := meterWindowRow.holds Try.pinned (OpenSpec.ofChange meterWindowWrong)

/-- 'withylaw23.MeterTwins': WHATEVER THE INPUT: true; the input reads as it did. -/
def meterTwinsSpec : ChangeSpec := { name := "meterTwins", fn := fun _ => fun
  | [d1, d2, d3, d4] => { results := [.lit (.bool true)], args := [d1, d2, d3, d4] }
  | _ => none }
def meterTwinsRow : OpenClaim := { program := "ytpgjlkbjejlinaa", sum := "0b0733b499262da09c45c254d2706a28c1208c1e8f62ba96e92d3a83249724c2", func := "withy/withylaw23.MeterTwins", spec := "meterTwins", apart := false }
def MeterTwinsSaid : Prop := meterTwinsRow.holds Try.pinned (OpenSpec.ofChange meterTwinsSpec)

/-- ITS FALSE NEIGHBOUR: 'it returns false'. Refute it at one input. -/
def meterTwinsWrong : ChangeSpec := { name := "meterTwins", fn := fun _ => fun
  | [d1, d2, d3, d4] => { results := [.lit (.bool false)], args := [d1, d2, d3, d4] }
  | _ => none }
def MeterTwinsWrongFalsely : Prop := meterTwinsRow.holds Try.pinned (OpenSpec.ofChange meterTwinsWrong)

/- THE SECOND FORM. 'bulk': how many values and letters a reading holds, each counted each time it is reached (what is shared counts as often as it is met; a slice's spare places count too). A statement '..UptoSaid' is the law's where the arguments, and the package variables that the reading takes, are together of bulk at most 1048576: NARROWER than '..Said'. Prove '..Said' where nothing that the law and all that it calls make is longer than what came in: it says more and counts as full. Else prove '..UptoSaid'. A law counts once. -/
mutual
def uptoBulk {H : Type} : DataW H → Nat
  | .lit (.string bytes) => bytes.length + 1
  | .lit _ => 1
  | .nil => 1
  | .ptr d => uptoBulk d + 1
  | .slice elems spare => uptoBulkAll elems + uptoBulkAll spare + 1
  | .agg parts => uptoBulkAll parts + 1
  | .iface _ d => uptoBulk d + 1
  | .map entries => uptoBulkEntries entries + 1
  | .held _ => 1
def uptoBulkAll {H : Type} : List (DataW H) → Nat
  | [] => 0
  | d :: r => uptoBulk d + uptoBulkAll r
def uptoBulkEntries {H : Type} : List (Lit × DataW H) → Nat
  | [] => 0
  | x :: r => uptoBulkEntry x + uptoBulkEntries r
def uptoBulkEntry {H : Type} : Lit × DataW H → Nat
  | (.string bytes, d) => bytes.length + uptoBulk d + 1
  | (_, d) => uptoBulk d + 1
 end
def uptoSmall : (H : Type) → List (DataW H) → Bool := fun _ ds => decide (uptoBulkAll ds ≤ 1048576)
def OpenSpec.upto (s : _root_.Go.ChangeSpec) : _root_.Go.OpenSpec := { _root_.Go.OpenSpec.ofChange s with cond := some uptoSmall }

/-- 'withylaw23.Meters', WHERE WHAT IT READS IS OF BULK AT MOST 1048576: true; the input reads as it did. -/
def metersUptoRow : OpenClaim := { program := "ytpgjlkbjejlinaa", sum := "0b0733b499262da09c45c254d2706a28c1208c1e8f62ba96e92d3a83249724c2", func := "withy/withylaw23.Meters", spec := "meters", apart := false, narrowed := true }
def MetersUptoSaid : Prop := metersUptoRow.holds Try.pinned (OpenSpec.upto metersSpec)

/-- 'withylaw23.MeterSteady', WHERE WHAT IT READS IS OF BULK AT MOST 1048576: true; the input reads as it did. -/
def meterSteadyUptoRow : OpenClaim := { program := "ytpgjlkbjejlinaa", sum := "0b0733b499262da09c45c254d2706a28c1208c1e8f62ba96e92d3a83249724c2", func := "withy/withylaw23.MeterSteady", spec := "meterSteady", apart := false, narrowed := true }
def MeterSteadyUptoSaid : Prop := meterSteadyUptoRow.holds Try.pinned (OpenSpec.upto meterSteadySpec)

/-- 'withylaw23.MeterRoom', WHERE WHAT IT READS IS OF BULK AT MOST 1048576: true; the input reads as it did. -/
def meterRoomUptoRow : OpenClaim := { program := "ytpgjlkbjejlinaa", sum := "0b0733b499262da09c45c254d2706a28c1208c1e8f62ba96e92d3a83249724c2", func := "withy/withylaw23.MeterRoom", spec := "meterRoom", apart := false, narrowed := true }
def MeterRoomUptoSaid : Prop := meterRoomUptoRow.holds Try.pinned (OpenSpec.upto meterRoomSpec)

/-- 'withylaw23.MeterForms', WHERE WHAT IT READS IS OF BULK AT MOST 1048576: true; the input reads as it did. -/
def meterFormsUptoRow : OpenClaim := { program := "ytpgjlkbjejlinaa", sum := "0b0733b499262da09c45c254d2706a28c1208c1e8f62ba96e92d3a83249724c2", func := "withy/withylaw23.MeterForms", spec := "meterForms", apart := false, narrowed := true }
def MeterFormsUptoSaid : Prop := meterFormsUptoRow.holds Try.pinned (OpenSpec.upto meterFormsSpec)

/-- 'withylaw23.MeterHold', WHERE WHAT IT READS IS OF BULK AT MOST 1048576: true; the input reads as it did. -/
def meterHoldUptoRow : OpenClaim := { program := "ytpgjlkbjejlinaa", sum := "0b0733b499262da09c45c254d2706a28c1208c1e8f62ba96e92d3a83249724c2", func := "withy/withylaw23.MeterHold", spec := "meterHold", apart := false, narrowed := true }
def MeterHoldUptoSaid : Prop := meterHoldUptoRow.holds Try.pinned (OpenSpec.upto meterHoldSpec)

/-- 'withylaw23.MeterWindow', WHERE WHAT IT READS IS OF BULK AT MOST 1048576: true; the input reads as it did. -/
def meterWindowUptoRow : OpenClaim := { program := "ytpgjlkbjejlinaa", sum := "0b0733b499262da09c45c254d2706a28c1208c1e8f62ba96e92d3a83249724c2", func := "withy/withylaw23.MeterWindow", spec := "meterWindow", apart := false, narrowed := true }
def MeterWindowUptoSaid : Prop := meterWindowUptoRow.holds Try.pinned (OpenSpec.upto meterWindowSpec)

/-- 'withylaw23.MeterTwins', WHERE WHAT IT READS IS OF BULK AT MOST 1048576: true; the input reads as it did. -/
def meterTwinsUptoRow : OpenClaim := { program := "ytpgjlkbjejlinaa", sum := "0b0733b499262da09c45c254d2706a28c1208c1e8f62ba96e92d3a83249724c2", func := "withy/withylaw23.MeterTwins", spec := "meterTwins", apart := false, narrowed := true }
def MeterTwinsUptoSaid : Prop := meterTwinsUptoRow.holds Try.pinned (OpenSpec.upto meterTwinsSpec)

end Rows
end Go.Proofs.Ytpgjlkbjejlinaa

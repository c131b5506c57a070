/-
  No cell of these rows narrows 'for every input' (looked for: loops, veiled, ifaces, maps, wideKeys, modest, calm, conditions, laid).
  DERIVED. THE GIVEN ROWS OF THIS SEAT. 10 by the template 'for every input the law returns true; each argument reads behind the call as it read before'; 0 by the template 'total and deterministic' (their statements: YtaingnnflldlhaaTotals.lean).
  GIVEN WITH THE SEED: the statements are not yours to turn. If you find one false, say at which input.
  Laid BY PROGRAM, IN A SANDBOX (cutbox-rows.mjs): the forced cells as the released guide's own fill.sh prints them over the translation b7b45d8b32078b0d… (all of the seat's roots in one cut). By AI agents, Wed Nov 11 2026. No macro, syntax, notation, axiom, sorry.
-/
import Derived.Test.YtaingnnflldlhaaChecked
import GoSem.Claim
import GoSem.ClaimJoined
import GoSem.ClaimMapViews
import Derived.JoinedTies
import Derived.KernelRfl
namespace Go.Proofs.Ytaingnnflldlhaa
/- THE CELL 'sum', in the pinned program and in every row, IS THE sha256 OF THE DUMP (.gsa) THAT YtaingnnflldlhaaProg.lean LOADS. Nothing in Lean hashes anything: it is a label: what it is worth is what the hold of that sum in a sandbox is worth. -/
noncomputable def Try.pinned : Pinned := { name := "ytaingnnflldlhaa", sum := "b7b45d8b32078b0da04c0ab0c5860a2574fc1c6931ad90de8f067db401f7e3c1", checked := Try.checked }
namespace Rows
def none {H : Type} : Left H := { results := [], args := [] }

/-- 'laws.FnTurns': WHATEVER THE INPUT: true; the input reads as it did. -/
def fnTurnsSpec : ChangeSpec := { name := "fnTurns", fn := fun _ => fun
  | [d1, d2] => { results := [.lit (.bool true)], args := [d1, d2] }
  | _ => none }
def fnTurnsRow : OpenClaim := { program := "ytaingnnflldlhaa", sum := "b7b45d8b32078b0da04c0ab0c5860a2574fc1c6931ad90de8f067db401f7e3c1", func := "loop.example/g01155/laws.FnTurns", spec := "fnTurns", inPlace := ["math.sqrt", "math.Float64bits"], unfollowed := true, recurses := true, apart := false }
def FnTurnsSaid : Prop := fnTurnsRow.holds Try.pinned (OpenSpec.ofChange fnTurnsSpec)

/-- ITS FALSE NEIGHBOUR: 'it returns false'. Refute it at one input. -/
def fnTurnsWrong : ChangeSpec := { name := "fnTurns", fn := fun _ => fun
  | [d1, d2] => { results := [.lit (.bool false)], args := [d1, d2] }
  | _ => none }
def FnTurnsWrongFalsely : Prop := fnTurnsRow.holds Try.pinned (OpenSpec.ofChange fnTurnsWrong)

/-- 'laws.FnFactors': WHATEVER THE INPUT: true; the input reads as it did. -/
def fnFactorsSpec : ChangeSpec := { name := "fnFactors", fn := fun _ => fun
  | [d1, d2] => { results := [.lit (.bool true)], args := [d1, d2] }
  | _ => none }
def fnFactorsRow : OpenClaim := { program := "ytaingnnflldlhaa", sum := "b7b45d8b32078b0da04c0ab0c5860a2574fc1c6931ad90de8f067db401f7e3c1", func := "loop.example/g01155/laws.FnFactors", spec := "fnFactors", apart := false }
def FnFactorsSaid : Prop := fnFactorsRow.holds Try.pinned (OpenSpec.ofChange fnFactorsSpec)

/-- ITS FALSE NEIGHBOUR: 'it returns false'. Refute it at one input. -/
def fnFactorsWrong : ChangeSpec := { name := "fnFactors", fn := fun _ => fun
  | [d1, d2] => { results := [.lit (.bool false)], args := [d1, d2] }
  | _ => none }
def FnFactorsWrongFalsely : Prop := fnFactorsRow.holds Try.pinned (OpenSpec.ofChange fnFactorsWrong)

/-- 'laws.FnExactNarrowUnitsApart': WHATEVER THE INPUT: true; the input reads as it did. -/
def fnExactNarrowUnitsApartSpec : ChangeSpec := { name := "fnExactNarrowUnitsApart", fn := fun _ => fun
  | [d1, d2] => { results := [.lit (.bool true)], args := [d1, d2] }
  | _ => none }
def fnExactNarrowUnitsApartRow : OpenClaim := { program := "ytaingnnflldlhaa", sum := "b7b45d8b32078b0da04c0ab0c5860a2574fc1c6931ad90de8f067db401f7e3c1", func := "loop.example/g01155/laws.FnExactNarrowUnitsApart", spec := "fnExactNarrowUnitsApart", inPlace := ["math.Float32bits"], unfollowed := true, recurses := true, apart := false }
def FnExactNarrowUnitsApartSaid : Prop := fnExactNarrowUnitsApartRow.holds Try.pinned (OpenSpec.ofChange fnExactNarrowUnitsApartSpec)

/-- ITS FALSE NEIGHBOUR: 'it returns false'. Refute it at one input. -/
def fnExactNarrowUnitsApartWrong : ChangeSpec := { name := "fnExactNarrowUnitsApart", fn := fun _ => fun
  | [d1, d2] => { results := [.lit (.bool false)], args := [d1, d2] }
  | _ => none }
def FnExactNarrowUnitsApartWrongFalsely : Prop := fnExactNarrowUnitsApartRow.holds Try.pinned (OpenSpec.ofChange fnExactNarrowUnitsApartWrong)

/-- 'laws.FnExactUnitsApart': WHATEVER THE INPUT: true; the input reads as it did. -/
def fnExactUnitsApartSpec : ChangeSpec := { name := "fnExactUnitsApart", fn := fun _ => fun
  | [d1, d2] => { results := [.lit (.bool true)], args := [d1, d2] }
  | _ => none }
def fnExactUnitsApartRow : OpenClaim := { program := "ytaingnnflldlhaa", sum := "b7b45d8b32078b0da04c0ab0c5860a2574fc1c6931ad90de8f067db401f7e3c1", func := "loop.example/g01155/laws.FnExactUnitsApart", spec := "fnExactUnitsApart", inPlace := ["math.Float64bits", "math.Float64frombits"], unfollowed := true, recurses := true, apart := false }
def FnExactUnitsApartSaid : Prop := fnExactUnitsApartRow.holds Try.pinned (OpenSpec.ofChange fnExactUnitsApartSpec)

/-- ITS FALSE NEIGHBOUR: 'it returns false'. Refute it at one input. -/
def fnExactUnitsApartWrong : ChangeSpec := { name := "fnExactUnitsApart", fn := fun _ => fun
  | [d1, d2] => { results := [.lit (.bool false)], args := [d1, d2] }
  | _ => none }
def FnExactUnitsApartWrongFalsely : Prop := fnExactUnitsApartRow.holds Try.pinned (OpenSpec.ofChange fnExactUnitsApartWrong)

/-- 'laws.FnExactNextUp': WHATEVER THE INPUT: true; the input reads as it did. -/
def fnExactNextUpSpec : ChangeSpec := { name := "fnExactNextUp", fn := fun _ => fun
  | [d] => { results := [.lit (.bool true)], args := [d] }
  | _ => none }
def fnExactNextUpRow : OpenClaim := { program := "ytaingnnflldlhaa", sum := "b7b45d8b32078b0da04c0ab0c5860a2574fc1c6931ad90de8f067db401f7e3c1", func := "loop.example/g01155/laws.FnExactNextUp", spec := "fnExactNextUp", inPlace := ["math.Float64frombits", "math.Float64bits"], apart := false }
def FnExactNextUpSaid : Prop := fnExactNextUpRow.holds Try.pinned (OpenSpec.ofChange fnExactNextUpSpec)

/-- ITS FALSE NEIGHBOUR: 'it returns false'. Refute it at one input. -/
def fnExactNextUpWrong : ChangeSpec := { name := "fnExactNextUp", fn := fun _ => fun
  | [d] => { results := [.lit (.bool false)], args := [d] }
  | _ => none }
def FnExactNextUpWrongFalsely : Prop := fnExactNextUpRow.holds Try.pinned (OpenSpec.ofChange fnExactNextUpWrong)

/-- 'laws.FnExactNextUpNarrow': WHATEVER THE INPUT: true; the input reads as it did. -/
def fnExactNextUpNarrowSpec : ChangeSpec := { name := "fnExactNextUpNarrow", fn := fun _ => fun
  | [d] => { results := [.lit (.bool true)], args := [d] }
  | _ => none }
def fnExactNextUpNarrowRow : OpenClaim := { program := "ytaingnnflldlhaa", sum := "b7b45d8b32078b0da04c0ab0c5860a2574fc1c6931ad90de8f067db401f7e3c1", func := "loop.example/g01155/laws.FnExactNextUpNarrow", spec := "fnExactNextUpNarrow", inPlace := ["math.Float32frombits", "math.Float32bits", "math.Float64frombits", "math.Float64bits"], apart := false }
def FnExactNextUpNarrowSaid : Prop := fnExactNextUpNarrowRow.holds Try.pinned (OpenSpec.ofChange fnExactNextUpNarrowSpec)

/-- ITS FALSE NEIGHBOUR: 'it returns false'. Refute it at one input. -/
def fnExactNextUpNarrowWrong : ChangeSpec := { name := "fnExactNextUpNarrow", fn := fun _ => fun
  | [d] => { results := [.lit (.bool false)], args := [d] }
  | _ => none }
def FnExactNextUpNarrowWrongFalsely : Prop := fnExactNextUpNarrowRow.holds Try.pinned (OpenSpec.ofChange fnExactNextUpNarrowWrong)

/-- 'laws.FnExactFactorsOf': WHATEVER THE INPUT: true; the input reads as it did. -/
def fnExactFactorsOfSpec : ChangeSpec := { name := "fnExactFactorsOf", fn := fun _ => fun
  | [d] => { results := [.lit (.bool true)], args := [d] }
  | _ => none }
def fnExactFactorsOfRow : OpenClaim := { program := "ytaingnnflldlhaa", sum := "b7b45d8b32078b0da04c0ab0c5860a2574fc1c6931ad90de8f067db401f7e3c1", func := "loop.example/g01155/laws.FnExactFactorsOf", spec := "fnExactFactorsOf", apart := false }
def FnExactFactorsOfSaid : Prop := fnExactFactorsOfRow.holds Try.pinned (OpenSpec.ofChange fnExactFactorsOfSpec)

/-- ITS FALSE NEIGHBOUR: 'it returns false'. Refute it at one input. -/
def fnExactFactorsOfWrong : ChangeSpec := { name := "fnExactFactorsOf", fn := fun _ => fun
  | [d] => { results := [.lit (.bool false)], args := [d] }
  | _ => none }
def FnExactFactorsOfWrongFalsely : Prop := fnExactFactorsOfRow.holds Try.pinned (OpenSpec.ofChange fnExactFactorsOfWrong)

/-- 'laws.FnExactTurnOf': WHATEVER THE INPUT: true; the input reads as it did. -/
def fnExactTurnOfSpec : ChangeSpec := { name := "fnExactTurnOf", fn := fun _ => fun
  | [d1, d2] => { results := [.lit (.bool true)], args := [d1, d2] }
  | _ => none }
def fnExactTurnOfRow : OpenClaim := { program := "ytaingnnflldlhaa", sum := "b7b45d8b32078b0da04c0ab0c5860a2574fc1c6931ad90de8f067db401f7e3c1", func := "loop.example/g01155/laws.FnExactTurnOf", spec := "fnExactTurnOf", inPlace := ["math.sqrt"], recurses := true, apart := false }
def FnExactTurnOfSaid : Prop := fnExactTurnOfRow.holds Try.pinned (OpenSpec.ofChange fnExactTurnOfSpec)

/-- ITS FALSE NEIGHBOUR: 'it returns false'. Refute it at one input. -/
def fnExactTurnOfWrong : ChangeSpec := { name := "fnExactTurnOf", fn := fun _ => fun
  | [d1, d2] => { results := [.lit (.bool false)], args := [d1, d2] }
  | _ => none }
def FnExactTurnOfWrongFalsely : Prop := fnExactTurnOfRow.holds Try.pinned (OpenSpec.ofChange fnExactTurnOfWrong)

/-- 'laws.FnExactNarrowTurnOf': WHATEVER THE INPUT: true; the input reads as it did. -/
def fnExactNarrowTurnOfSpec : ChangeSpec := { name := "fnExactNarrowTurnOf", fn := fun _ => fun
  | [d1, d2] => { results := [.lit (.bool true)], args := [d1, d2] }
  | _ => none }
def fnExactNarrowTurnOfRow : OpenClaim := { program := "ytaingnnflldlhaa", sum := "b7b45d8b32078b0da04c0ab0c5860a2574fc1c6931ad90de8f067db401f7e3c1", func := "loop.example/g01155/laws.FnExactNarrowTurnOf", spec := "fnExactNarrowTurnOf", inPlace := ["math.sqrt"], recurses := true, apart := false }
def FnExactNarrowTurnOfSaid : Prop := fnExactNarrowTurnOfRow.holds Try.pinned (OpenSpec.ofChange fnExactNarrowTurnOfSpec)

/-- ITS FALSE NEIGHBOUR: 'it returns false'. Refute it at one input. -/
def fnExactNarrowTurnOfWrong : ChangeSpec := { name := "fnExactNarrowTurnOf", fn := fun _ => fun
  | [d1, d2] => { results := [.lit (.bool false)], args := [d1, d2] }
  | _ => none }
def FnExactNarrowTurnOfWrongFalsely : Prop := fnExactNarrowTurnOfRow.holds Try.pinned (OpenSpec.ofChange fnExactNarrowTurnOfWrong)

/-- 'laws.FnExactTurnsOf': WHATEVER THE INPUT: true; the input reads as it did. -/
def fnExactTurnsOfSpec : ChangeSpec := { name := "fnExactTurnsOf", fn := fun _ => fun
  | [d] => { results := [.lit (.bool true)], args := [d] }
  | _ => none }
def fnExactTurnsOfRow : OpenClaim := { program := "ytaingnnflldlhaa", sum := "b7b45d8b32078b0da04c0ab0c5860a2574fc1c6931ad90de8f067db401f7e3c1", func := "loop.example/g01155/laws.FnExactTurnsOf", spec := "fnExactTurnsOf", inPlace := ["math.sqrt"], unfollowed := true, recurses := true, apart := false }
def FnExactTurnsOfSaid : Prop := fnExactTurnsOfRow.holds Try.pinned (OpenSpec.ofChange fnExactTurnsOfSpec)

/-- ITS FALSE NEIGHBOUR: 'it returns false'. Refute it at one input. -/
def fnExactTurnsOfWrong : ChangeSpec := { name := "fnExactTurnsOf", fn := fun _ => fun
  | [d] => { results := [.lit (.bool false)], args := [d] }
  | _ => none }
def FnExactTurnsOfWrongFalsely : Prop := fnExactTurnsOfRow.holds Try.pinned (OpenSpec.ofChange fnExactTurnsOfWrong)

/- THE SECOND FORM. 'bulk': how many values and letters a reading holds, each counted each time it is reached (what is shared counts as often as it is met; a slice's spare places count too). A statement '..UptoSaid' is the law's where the arguments, and the package variables that the reading takes, are together of bulk at most 1048576: NARROWER than '..Said'. Prove '..Said' where nothing that the law and all that it calls make is longer than what came in: it says more and counts as full. Else prove '..UptoSaid'. A law counts once. -/
mutual
def uptoBulk {H : Type} : DataW H → Nat
  | .lit (.string bytes) => bytes.length + 1
  | .lit _ => 1
  | .nil => 1
  | .ptr d => uptoBulk d + 1
  | .slice elems spare => uptoBulkAll elems + uptoBulkAll spare + 1
  | .agg parts => uptoBulkAll parts + 1
  | .iface _ d => uptoBulk d + 1
  | .map entries => uptoBulkEntries entries + 1
  | .held _ => 1
def uptoBulkAll {H : Type} : List (DataW H) → Nat
  | [] => 0
  | d :: r => uptoBulk d + uptoBulkAll r
def uptoBulkEntries {H : Type} : List (Lit × DataW H) → Nat
  | [] => 0
  | x :: r => uptoBulkEntry x + uptoBulkEntries r
def uptoBulkEntry {H : Type} : Lit × DataW H → Nat
  | (.string bytes, d) => bytes.length + uptoBulk d + 1
  | (_, d) => uptoBulk d + 1
 end
def uptoSmall : (H : Type) → List (DataW H) → Bool := fun _ ds => decide (uptoBulkAll ds ≤ 1048576)
def OpenSpec.upto (s : _root_.Go.ChangeSpec) : _root_.Go.OpenSpec := { _root_.Go.OpenSpec.ofChange s with cond := some uptoSmall }

/-- 'laws.FnTurns', WHERE WHAT IT READS IS OF BULK AT MOST 1048576: true; the input reads as it did. -/
def fnTurnsUptoRow : OpenClaim := { program := "ytaingnnflldlhaa", sum := "b7b45d8b32078b0da04c0ab0c5860a2574fc1c6931ad90de8f067db401f7e3c1", func := "loop.example/g01155/laws.FnTurns", spec := "fnTurns", inPlace := ["math.sqrt", "math.Float64bits"], unfollowed := true, recurses := true, apart := false, narrowed := true }
def FnTurnsUptoSaid : Prop := fnTurnsUptoRow.holds Try.pinned (OpenSpec.upto fnTurnsSpec)

/-- 'laws.FnFactors', WHERE WHAT IT READS IS OF BULK AT MOST 1048576: true; the input reads as it did. -/
def fnFactorsUptoRow : OpenClaim := { program := "ytaingnnflldlhaa", sum := "b7b45d8b32078b0da04c0ab0c5860a2574fc1c6931ad90de8f067db401f7e3c1", func := "loop.example/g01155/laws.FnFactors", spec := "fnFactors", apart := false, narrowed := true }
def FnFactorsUptoSaid : Prop := fnFactorsUptoRow.holds Try.pinned (OpenSpec.upto fnFactorsSpec)

/-- 'laws.FnExactNarrowUnitsApart', WHERE WHAT IT READS IS OF BULK AT MOST 1048576: true; the input reads as it did. -/
def fnExactNarrowUnitsApartUptoRow : OpenClaim := { program := "ytaingnnflldlhaa", sum := "b7b45d8b32078b0da04c0ab0c5860a2574fc1c6931ad90de8f067db401f7e3c1", func := "loop.example/g01155/laws.FnExactNarrowUnitsApart", spec := "fnExactNarrowUnitsApart", inPlace := ["math.Float32bits"], unfollowed := true, recurses := true, apart := false, narrowed := true }
def FnExactNarrowUnitsApartUptoSaid : Prop := fnExactNarrowUnitsApartUptoRow.holds Try.pinned (OpenSpec.upto fnExactNarrowUnitsApartSpec)

/-- 'laws.FnExactUnitsApart', WHERE WHAT IT READS IS OF BULK AT MOST 1048576: true; the input reads as it did. -/
def fnExactUnitsApartUptoRow : OpenClaim := { program := "ytaingnnflldlhaa", sum := "b7b45d8b32078b0da04c0ab0c5860a2574fc1c6931ad90de8f067db401f7e3c1", func := "loop.example/g01155/laws.FnExactUnitsApart", spec := "fnExactUnitsApart", inPlace := ["math.Float64bits", "math.Float64frombits"], unfollowed := true, recurses := true, apart := false, narrowed := true }
def FnExactUnitsApartUptoSaid : Prop := fnExactUnitsApartUptoRow.holds Try.pinned (OpenSpec.upto fnExactUnitsApartSpec)

/-- 'laws.FnExactNextUp', WHERE WHAT IT READS IS OF BULK AT MOST 1048576: true; the input reads as it did. -/
def fnExactNextUpUptoRow : OpenClaim := { program := "ytaingnnflldlhaa", sum := "b7b45d8b32078b0da04c0ab0c5860a2574fc1c6931ad90de8f067db401f7e3c1", func := "loop.example/g01155/laws.FnExactNextUp", spec := "fnExactNextUp", inPlace := ["math.Float64frombits", "math.Float64bits"], apart := false, narrowed := true }
def FnExactNextUpUptoSaid : Prop := fnExactNextUpUptoRow.holds Try.pinned (OpenSpec.upto fnExactNextUpSpec)

/-- 'laws.FnExactNextUpNarrow', WHERE WHAT IT READS IS OF BULK AT MOST 1048576: true; the input reads as it did. -/
def fnExactNextUpNarrowUptoRow : OpenClaim := { program := "ytaingnnflldlhaa", sum := "b7b45d8b32078b0da04c0ab0c5860a2574fc1c6931ad90de8f067db401f7e3c1", func := "loop.example/g01155/laws.FnExactNextUpNarrow", spec := "fnExactNextUpNarrow", inPlace := ["math.Float32frombits", "math.Float32bits", "math.Float64frombits", "math.Float64bits"], apart := false, narrowed := true }
def FnExactNextUpNarrowUptoSaid : Prop := fnExactNextUpNarrowUptoRow.holds Try.pinned (OpenSpec.upto fnExactNextUpNarrowSpec)

/-- 'laws.FnExactFactorsOf', WHERE WHAT IT READS IS OF BULK AT MOST 1048576: true; the input reads as it did. -/
def fnExactFactorsOfUptoRow : OpenClaim := { program := "ytaingnnflldlhaa", sum := "b7b45d8b32078b0da04c0ab0c5860a2574fc1c6931ad90de8f067db401f7e3c1", func := "loop.example/g01155/laws.FnExactFactorsOf", spec := "fnExactFactorsOf", apart := false, narrowed := true }
def FnExactFactorsOfUptoSaid : Prop := fnExactFactorsOfUptoRow.holds Try.pinned (OpenSpec.upto fnExactFactorsOfSpec)

/-- 'laws.FnExactTurnOf', WHERE WHAT IT READS IS OF BULK AT MOST 1048576: true; the input reads as it did. -/
def fnExactTurnOfUptoRow : OpenClaim := { program := "ytaingnnflldlhaa", sum := "b7b45d8b32078b0da04c0ab0c5860a2574fc1c6931ad90de8f067db401f7e3c1", func := "loop.example/g01155/laws.FnExactTurnOf", spec := "fnExactTurnOf", inPlace := ["math.sqrt"], recurses := true, apart := false, narrowed := true }
def FnExactTurnOfUptoSaid : Prop := fnExactTurnOfUptoRow.holds Try.pinned (OpenSpec.upto fnExactTurnOfSpec)

/-- 'laws.FnExactNarrowTurnOf', WHERE WHAT IT READS IS OF BULK AT MOST 1048576: true; the input reads as it did. -/
def fnExactNarrowTurnOfUptoRow : OpenClaim := { program := "ytaingnnflldlhaa", sum := "b7b45d8b32078b0da04c0ab0c5860a2574fc1c6931ad90de8f067db401f7e3c1", func := "loop.example/g01155/laws.FnExactNarrowTurnOf", spec := "fnExactNarrowTurnOf", inPlace := ["math.sqrt"], recurses := true, apart := false, narrowed := true }
def FnExactNarrowTurnOfUptoSaid : Prop := fnExactNarrowTurnOfUptoRow.holds Try.pinned (OpenSpec.upto fnExactNarrowTurnOfSpec)

/-- 'laws.FnExactTurnsOf', WHERE WHAT IT READS IS OF BULK AT MOST 1048576: true; the input reads as it did. -/
def fnExactTurnsOfUptoRow : OpenClaim := { program := "ytaingnnflldlhaa", sum := "b7b45d8b32078b0da04c0ab0c5860a2574fc1c6931ad90de8f067db401f7e3c1", func := "loop.example/g01155/laws.FnExactTurnsOf", spec := "fnExactTurnsOf", inPlace := ["math.sqrt"], unfollowed := true, recurses := true, apart := false, narrowed := true }
def FnExactTurnsOfUptoSaid : Prop := fnExactTurnsOfUptoRow.holds Try.pinned (OpenSpec.upto fnExactTurnsOfSpec)

end Rows
end Go.Proofs.Ytaingnnflldlhaa

/-
  No cell of these rows narrows 'for every input' (looked for: loops, veiled, ifaces, maps, wideKeys, modest, calm, conditions, laid).
  DERIVED. THE GIVEN ROWS OF THIS SEAT. 7 by the template 'for every input the law returns true; each argument reads behind the call as it read before'; 0 by the template 'total and deterministic' (their statements: YtepeohbcnfgliaaTotals.lean).
  GIVEN WITH THE SEED: the statements are not yours to turn. If you find one false, say at which input.
  Laid BY PROGRAM, IN A SANDBOX (cutbox-rows.mjs): the forced cells as the released guide's own fill.sh prints them over the translation 4e8278d97d004544… (all of the seat's roots in one cut). By AI agents, Wed Nov 11 2026. No macro, syntax, notation, axiom, sorry.
-/
import Derived.Test.YtepeohbcnfgliaaChecked
import GoSem.Claim
import GoSem.ClaimJoined
import GoSem.ClaimMapViews
import Derived.JoinedTies
import Derived.KernelRfl
namespace Go.Proofs.Ytepeohbcnfgliaa
/- THE CELL 'sum', in the pinned program and in every row, IS THE sha256 OF THE DUMP (.gsa) THAT YtepeohbcnfgliaaProg.lean LOADS. Nothing in Lean hashes anything: it is a label: what it is worth is what the hold of that sum in a sandbox is worth. -/
noncomputable def Try.pinned : Pinned := { name := "ytepeohbcnfgliaa", sum := "4e8278d97d00454476c2dea8f3cbd42c90eb46c7ebe369ed7c186778e6a8e4f1", checked := Try.checked }
namespace Rows
def none {H : Type} : Left H := { results := [], args := [] }

/-- 'laws.FnExactSameOrbit': WHATEVER THE INPUT: true; the input reads as it did. -/
def fnExactSameOrbitSpec : ChangeSpec := { name := "fnExactSameOrbit", fn := fun _ => fun
  | [d1, d2] => { results := [.lit (.bool true)], args := [d1, d2] }
  | _ => none }
def fnExactSameOrbitRow : OpenClaim := { program := "ytepeohbcnfgliaa", sum := "4e8278d97d00454476c2dea8f3cbd42c90eb46c7ebe369ed7c186778e6a8e4f1", func := "loop.example/g01284/laws.FnExactSameOrbit", spec := "fnExactSameOrbit", inPlace := ["math.Float32bits", "math.Float64bits"], unfollowed := true, recurses := true, apart := false }
def FnExactSameOrbitSaid : Prop := fnExactSameOrbitRow.holds Try.pinned (OpenSpec.ofChange fnExactSameOrbitSpec)

/-- ITS FALSE NEIGHBOUR: 'it returns false'. Refute it at one input. -/
def fnExactSameOrbitWrong : ChangeSpec := { name := "fnExactSameOrbit", fn := fun _ => fun
  | [d1, d2] => { results := [.lit (.bool false)], args := [d1, d2] }
  | _ => none }
def FnExactSameOrbitWrongFalsely : Prop := fnExactSameOrbitRow.holds Try.pinned (OpenSpec.ofChange fnExactSameOrbitWrong)

/-- 'laws.FnExactValidOrbit': WHATEVER THE INPUT: true; the input reads as it did. -/
def fnExactValidOrbitSpec : ChangeSpec := { name := "fnExactValidOrbit", fn := fun _ => fun
  | [d] => { results := [.lit (.bool true)], args := [d] }
  | _ => none }
def fnExactValidOrbitRow : OpenClaim := { program := "ytepeohbcnfgliaa", sum := "4e8278d97d00454476c2dea8f3cbd42c90eb46c7ebe369ed7c186778e6a8e4f1", func := "loop.example/g01284/laws.FnExactValidOrbit", spec := "fnExactValidOrbit", inPlace := ["math.Float64bits", "math.Float64frombits"], unfollowed := true, recurses := true, apart := false }
def FnExactValidOrbitSaid : Prop := fnExactValidOrbitRow.holds Try.pinned (OpenSpec.ofChange fnExactValidOrbitSpec)

/-- ITS FALSE NEIGHBOUR: 'it returns false'. Refute it at one input. -/
def fnExactValidOrbitWrong : ChangeSpec := { name := "fnExactValidOrbit", fn := fun _ => fun
  | [d] => { results := [.lit (.bool false)], args := [d] }
  | _ => none }
def FnExactValidOrbitWrongFalsely : Prop := fnExactValidOrbitRow.holds Try.pinned (OpenSpec.ofChange fnExactValidOrbitWrong)

/-- 'laws.FnExactCircleOrbit': WHATEVER THE INPUT: true; the input reads as it did. -/
def fnExactCircleOrbitSpec : ChangeSpec := { name := "fnExactCircleOrbit", fn := fun _ => fun
  | [d] => { results := [.lit (.bool true)], args := [d] }
  | _ => none }
def fnExactCircleOrbitRow : OpenClaim := { program := "ytepeohbcnfgliaa", sum := "4e8278d97d00454476c2dea8f3cbd42c90eb46c7ebe369ed7c186778e6a8e4f1", func := "loop.example/g01284/laws.FnExactCircleOrbit", spec := "fnExactCircleOrbit", inPlace := ["math.Float64bits", "math.Float64frombits"], unfollowed := true, recurses := true, apart := false }
def FnExactCircleOrbitSaid : Prop := fnExactCircleOrbitRow.holds Try.pinned (OpenSpec.ofChange fnExactCircleOrbitSpec)

/-- ITS FALSE NEIGHBOUR: 'it returns false'. Refute it at one input. -/
def fnExactCircleOrbitWrong : ChangeSpec := { name := "fnExactCircleOrbit", fn := fun _ => fun
  | [d] => { results := [.lit (.bool false)], args := [d] }
  | _ => none }
def FnExactCircleOrbitWrongFalsely : Prop := fnExactCircleOrbitRow.holds Try.pinned (OpenSpec.ofChange fnExactCircleOrbitWrong)

/-- 'laws.FnExactNearOf': WHATEVER THE INPUT: true; the input reads as it did. -/
def fnExactNearOfSpec : ChangeSpec := { name := "fnExactNearOf", fn := fun _ => fun
  | [d] => { results := [.lit (.bool true)], args := [d] }
  | _ => none }
def fnExactNearOfRow : OpenClaim := { program := "ytepeohbcnfgliaa", sum := "4e8278d97d00454476c2dea8f3cbd42c90eb46c7ebe369ed7c186778e6a8e4f1", func := "loop.example/g01284/laws.FnExactNearOf", spec := "fnExactNearOf", inPlace := ["math.Float64bits", "math.Float64frombits"], unfollowed := true, recurses := true, apart := false }
def FnExactNearOfSaid : Prop := fnExactNearOfRow.holds Try.pinned (OpenSpec.ofChange fnExactNearOfSpec)

/-- ITS FALSE NEIGHBOUR: 'it returns false'. Refute it at one input. -/
def fnExactNearOfWrong : ChangeSpec := { name := "fnExactNearOf", fn := fun _ => fun
  | [d] => { results := [.lit (.bool false)], args := [d] }
  | _ => none }
def FnExactNearOfWrongFalsely : Prop := fnExactNearOfRow.holds Try.pinned (OpenSpec.ofChange fnExactNearOfWrong)

/-- 'laws.FnExactFarOf': WHATEVER THE INPUT: true; the input reads as it did. -/
def fnExactFarOfSpec : ChangeSpec := { name := "fnExactFarOf", fn := fun _ => fun
  | [d] => { results := [.lit (.bool true)], args := [d] }
  | _ => none }
def fnExactFarOfRow : OpenClaim := { program := "ytepeohbcnfgliaa", sum := "4e8278d97d00454476c2dea8f3cbd42c90eb46c7ebe369ed7c186778e6a8e4f1", func := "loop.example/g01284/laws.FnExactFarOf", spec := "fnExactFarOf", inPlace := ["math.Float64bits", "math.Float64frombits"], unfollowed := true, recurses := true, apart := false }
def FnExactFarOfSaid : Prop := fnExactFarOfRow.holds Try.pinned (OpenSpec.ofChange fnExactFarOfSpec)

/-- ITS FALSE NEIGHBOUR: 'it returns false'. Refute it at one input. -/
def fnExactFarOfWrong : ChangeSpec := { name := "fnExactFarOf", fn := fun _ => fun
  | [d] => { results := [.lit (.bool false)], args := [d] }
  | _ => none }
def FnExactFarOfWrongFalsely : Prop := fnExactFarOfRow.holds Try.pinned (OpenSpec.ofChange fnExactFarOfWrong)

/-- 'laws.FnExactEnergyOfOrbit': WHATEVER THE INPUT: true; the input reads as it did. -/
def fnExactEnergyOfOrbitSpec : ChangeSpec := { name := "fnExactEnergyOfOrbit", fn := fun _ => fun
  | [d1, d2] => { results := [.lit (.bool true)], args := [d1, d2] }
  | _ => none }
def fnExactEnergyOfOrbitRow : OpenClaim := { program := "ytepeohbcnfgliaa", sum := "4e8278d97d00454476c2dea8f3cbd42c90eb46c7ebe369ed7c186778e6a8e4f1", func := "loop.example/g01284/laws.FnExactEnergyOfOrbit", spec := "fnExactEnergyOfOrbit", inPlace := ["math.Float64bits", "math.Float64frombits"], unfollowed := true, recurses := true, apart := false }
def FnExactEnergyOfOrbitSaid : Prop := fnExactEnergyOfOrbitRow.holds Try.pinned (OpenSpec.ofChange fnExactEnergyOfOrbitSpec)

/-- ITS FALSE NEIGHBOUR: 'it returns false'. Refute it at one input. -/
def fnExactEnergyOfOrbitWrong : ChangeSpec := { name := "fnExactEnergyOfOrbit", fn := fun _ => fun
  | [d1, d2] => { results := [.lit (.bool false)], args := [d1, d2] }
  | _ => none }
def FnExactEnergyOfOrbitWrongFalsely : Prop := fnExactEnergyOfOrbitRow.holds Try.pinned (OpenSpec.ofChange fnExactEnergyOfOrbitWrong)

/-- 'laws.FnExactBesideOf': WHATEVER THE INPUT: true; the input reads as it did. -/
def fnExactBesideOfSpec : ChangeSpec := { name := "fnExactBesideOf", fn := fun _ => fun
  | [d] => { results := [.lit (.bool true)], args := [d] }
  | _ => none }
def fnExactBesideOfRow : OpenClaim := { program := "ytepeohbcnfgliaa", sum := "4e8278d97d00454476c2dea8f3cbd42c90eb46c7ebe369ed7c186778e6a8e4f1", func := "loop.example/g01284/laws.FnExactBesideOf", spec := "fnExactBesideOf", inPlace := ["math.Float64bits", "math.Float64frombits"], unfollowed := true, recurses := true, apart := false }
def FnExactBesideOfSaid : Prop := fnExactBesideOfRow.holds Try.pinned (OpenSpec.ofChange fnExactBesideOfSpec)

/-- ITS FALSE NEIGHBOUR: 'it returns false'. Refute it at one input. -/
def fnExactBesideOfWrong : ChangeSpec := { name := "fnExactBesideOf", fn := fun _ => fun
  | [d] => { results := [.lit (.bool false)], args := [d] }
  | _ => none }
def FnExactBesideOfWrongFalsely : Prop := fnExactBesideOfRow.holds Try.pinned (OpenSpec.ofChange fnExactBesideOfWrong)

/- THE SECOND FORM. 'bulk': how many values and letters a reading holds, each counted each time it is reached (what is shared counts as often as it is met; a slice's spare places count too). A statement '..UptoSaid' is the law's where the arguments, and the package variables that the reading takes, are together of bulk at most 1048576: NARROWER than '..Said'. Prove '..Said' where nothing that the law and all that it calls make is longer than what came in: it says more and counts as full. Else prove '..UptoSaid'. A law counts once. -/
mutual
def uptoBulk {H : Type} : DataW H → Nat
  | .lit (.string bytes) => bytes.length + 1
  | .lit _ => 1
  | .nil => 1
  | .ptr d => uptoBulk d + 1
  | .slice elems spare => uptoBulkAll elems + uptoBulkAll spare + 1
  | .agg parts => uptoBulkAll parts + 1
  | .iface _ d => uptoBulk d + 1
  | .map entries => uptoBulkEntries entries + 1
  | .held _ => 1
def uptoBulkAll {H : Type} : List (DataW H) → Nat
  | [] => 0
  | d :: r => uptoBulk d + uptoBulkAll r
def uptoBulkEntries {H : Type} : List (Lit × DataW H) → Nat
  | [] => 0
  | x :: r => uptoBulkEntry x + uptoBulkEntries r
def uptoBulkEntry {H : Type} : Lit × DataW H → Nat
  | (.string bytes, d) => bytes.length + uptoBulk d + 1
  | (_, d) => uptoBulk d + 1
 end
def uptoSmall : (H : Type) → List (DataW H) → Bool := fun _ ds => decide (uptoBulkAll ds ≤ 1048576)
def OpenSpec.upto (s : _root_.Go.ChangeSpec) : _root_.Go.OpenSpec := { _root_.Go.OpenSpec.ofChange s with cond := some uptoSmall }

/-- 'laws.FnExactSameOrbit', WHERE WHAT IT READS IS OF BULK AT MOST 1048576: true; the input reads as it did. -/
def fnExactSameOrbitUptoRow : OpenClaim := { program := "ytepeohbcnfgliaa", sum := "4e8278d97d00454476c2dea8f3cbd42c90eb46c7ebe369ed7c186778e6a8e4f1", func := "loop.example/g01284/laws.FnExactSameOrbit", spec := "fnExactSameOrbit", inPlace := ["math.Float32bits", "math.Float64bits"], unfollowed := true, recurses := true, apart := false, narrowed := true }
def FnExactSameOrbitUptoSaid : Prop := fnExactSameOrbitUptoRow.holds Try.pinned (OpenSpec.upto fnExactSameOrbitSpec)

/-- 'laws.FnExactValidOrbit', WHERE WHAT IT READS IS OF BULK AT MOST 1048576: true; the input reads as it did. -/
def fnExactValidOrbitUptoRow : OpenClaim := { program := "ytepeohbcnfgliaa", sum := "4e8278d97d00454476c2dea8f3cbd42c90eb46c7ebe369ed7c186778e6a8e4f1", func := "loop.example/g01284/laws.FnExactValidOrbit", spec := "fnExactValidOrbit", inPlace := ["math.Float64bits", "math.Float64frombits"], unfollowed := true, recurses := true, apart := false, narrowed := true }
def FnExactValidOrbitUptoSaid : Prop := fnExactValidOrbitUptoRow.holds Try.pinned (OpenSpec.upto fnExactValidOrbitSpec)

/-- 'laws.FnExactCircleOrbit', WHERE WHAT IT READS IS OF BULK AT MOST 1048576: true; the input reads as it did. -/
def fnExactCircleOrbitUptoRow : OpenClaim := { program := "ytepeohbcnfgliaa", sum := "4e8278d97d00454476c2dea8f3cbd42c90eb46c7ebe369ed7c186778e6a8e4f1", func := "loop.example/g01284/laws.FnExactCircleOrbit", spec := "fnExactCircleOrbit", inPlace := ["math.Float64bits", "math.Float64frombits"], unfollowed := true, recurses := true, apart := false, narrowed := true }
def FnExactCircleOrbitUptoSaid : Prop := fnExactCircleOrbitUptoRow.holds Try.pinned (OpenSpec.upto fnExactCircleOrbitSpec)

/-- 'laws.FnExactNearOf', WHERE WHAT IT READS IS OF BULK AT MOST 1048576: true; the input reads as it did. -/
def fnExactNearOfUptoRow : OpenClaim := { program := "ytepeohbcnfgliaa", sum := "4e8278d97d00454476c2dea8f3cbd42c90eb46c7ebe369ed7c186778e6a8e4f1", func := "loop.example/g01284/laws.FnExactNearOf", spec := "fnExactNearOf", inPlace := ["math.Float64bits", "math.Float64frombits"], unfollowed := true, recurses := true, apart := false, narrowed := true }
def FnExactNearOfUptoSaid : Prop := fnExactNearOfUptoRow.holds Try.pinned (OpenSpec.upto fnExactNearOfSpec)

/-- 'laws.FnExactFarOf', WHERE WHAT IT READS IS OF BULK AT MOST 1048576: true; the input reads as it did. -/
def fnExactFarOfUptoRow : OpenClaim := { program := "ytepeohbcnfgliaa", sum := "4e8278d97d00454476c2dea8f3cbd42c90eb46c7ebe369ed7c186778e6a8e4f1", func := "loop.example/g01284/laws.FnExactFarOf", spec := "fnExactFarOf", inPlace := ["math.Float64bits", "math.Float64frombits"], unfollowed := true, recurses := true, apart := false, narrowed := true }
def FnExactFarOfUptoSaid : Prop := fnExactFarOfUptoRow.holds Try.pinned (OpenSpec.upto fnExactFarOfSpec)

/-- 'laws.FnExactEnergyOfOrbit', WHERE WHAT IT READS IS OF BULK AT MOST 1048576: true; the input reads as it did. -/
def fnExactEnergyOfOrbitUptoRow : OpenClaim := { program := "ytepeohbcnfgliaa", sum := "4e8278d97d00454476c2dea8f3cbd42c90eb46c7ebe369ed7c186778e6a8e4f1", func := "loop.example/g01284/laws.FnExactEnergyOfOrbit", spec := "fnExactEnergyOfOrbit", inPlace := ["math.Float64bits", "math.Float64frombits"], unfollowed := true, recurses := true, apart := false, narrowed := true }
def FnExactEnergyOfOrbitUptoSaid : Prop := fnExactEnergyOfOrbitUptoRow.holds Try.pinned (OpenSpec.upto fnExactEnergyOfOrbitSpec)

/-- 'laws.FnExactBesideOf', WHERE WHAT IT READS IS OF BULK AT MOST 1048576: true; the input reads as it did. -/
def fnExactBesideOfUptoRow : OpenClaim := { program := "ytepeohbcnfgliaa", sum := "4e8278d97d00454476c2dea8f3cbd42c90eb46c7ebe369ed7c186778e6a8e4f1", func := "loop.example/g01284/laws.FnExactBesideOf", spec := "fnExactBesideOf", inPlace := ["math.Float64bits", "math.Float64frombits"], unfollowed := true, recurses := true, apart := false, narrowed := true }
def FnExactBesideOfUptoSaid : Prop := fnExactBesideOfUptoRow.holds Try.pinned (OpenSpec.upto fnExactBesideOfSpec)

end Rows
end Go.Proofs.Ytepeohbcnfgliaa

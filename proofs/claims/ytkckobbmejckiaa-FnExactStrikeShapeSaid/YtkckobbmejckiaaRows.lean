/-
  No cell of these rows narrows 'for every input' (looked for: loops, veiled, ifaces, maps, wideKeys, modest, calm, conditions, laid).
  DERIVED. THE GIVEN ROWS OF THIS SEAT. 5 by the template 'for every input the law returns true; each argument reads behind the call as it read before'; 0 by the template 'total and deterministic' (their statements: YtkckobbmejckiaaTotals.lean).
  GIVEN WITH THE SEED: the statements are not yours to turn. If you find one false, say at which input.
  Laid BY PROGRAM, IN A SANDBOX (cutbox-rows.mjs): the forced cells as the released guide's own fill.sh prints them over the translation 552b3b2ab40343a3… (all of the seat's roots in one cut). By AI agents, Wed Nov 11 2026. No macro, syntax, notation, axiom, sorry.
-/
import Derived.Test.YtkckobbmejckiaaChecked
import GoSem.Claim
import GoSem.ClaimJoined
import GoSem.ClaimMapViews
import Derived.JoinedTies
import Derived.KernelRfl
namespace Go.Proofs.Ytkckobbmejckiaa
/- THE CELL 'sum', in the pinned program and in every row, IS THE sha256 OF THE DUMP (.gsa) THAT YtkckobbmejckiaaProg.lean LOADS. Nothing in Lean hashes anything: it is a label: what it is worth is what the hold of that sum in a sandbox is worth. -/
noncomputable def Try.pinned : Pinned := { name := "ytkckobbmejckiaa", sum := "552b3b2ab40343a37ba001c6782ca1baf4b80b6053adfe93ac2fc39b832a7ca0", checked := Try.checked }
namespace Rows
def none {H : Type} : Left H := { results := [], args := [] }

/-- 'laws.FnExactEnergyOf': WHATEVER THE INPUT: true; the input reads as it did. -/
def fnExactEnergyOfSpec : ChangeSpec := { name := "fnExactEnergyOf", fn := fun _ => fun
  | [d] => { results := [.lit (.bool true)], args := [d] }
  | _ => none }
def fnExactEnergyOfRow : OpenClaim := { program := "ytkckobbmejckiaa", sum := "552b3b2ab40343a37ba001c6782ca1baf4b80b6053adfe93ac2fc39b832a7ca0", func := "loop.example/g03222/laws.FnExactEnergyOf", spec := "fnExactEnergyOf", apart := false }
def FnExactEnergyOfSaid : Prop := fnExactEnergyOfRow.holds Try.pinned (OpenSpec.ofChange fnExactEnergyOfSpec)

/-- ITS FALSE NEIGHBOUR: 'it returns false'. Refute it at one input. -/
def fnExactEnergyOfWrong : ChangeSpec := { name := "fnExactEnergyOf", fn := fun _ => fun
  | [d] => { results := [.lit (.bool false)], args := [d] }
  | _ => none }
def FnExactEnergyOfWrongFalsely : Prop := fnExactEnergyOfRow.holds Try.pinned (OpenSpec.ofChange fnExactEnergyOfWrong)

/-- 'laws.FnExactPeakOf': WHATEVER THE INPUT: true; the input reads as it did. -/
def fnExactPeakOfSpec : ChangeSpec := { name := "fnExactPeakOf", fn := fun _ => fun
  | [d] => { results := [.lit (.bool true)], args := [d] }
  | _ => none }
def fnExactPeakOfRow : OpenClaim := { program := "ytkckobbmejckiaa", sum := "552b3b2ab40343a37ba001c6782ca1baf4b80b6053adfe93ac2fc39b832a7ca0", func := "loop.example/g03222/laws.FnExactPeakOf", spec := "fnExactPeakOf", inPlace := ["math.Float32bits", "math.Float32frombits"], apart := false }
def FnExactPeakOfSaid : Prop := fnExactPeakOfRow.holds Try.pinned (OpenSpec.ofChange fnExactPeakOfSpec)

/-- ITS FALSE NEIGHBOUR: 'it returns false'. Refute it at one input. -/
def fnExactPeakOfWrong : ChangeSpec := { name := "fnExactPeakOf", fn := fun _ => fun
  | [d] => { results := [.lit (.bool false)], args := [d] }
  | _ => none }
def FnExactPeakOfWrongFalsely : Prop := fnExactPeakOfRow.holds Try.pinned (OpenSpec.ofChange fnExactPeakOfWrong)

/-- 'laws.FnExactBowForce': WHATEVER THE INPUT: true; the input reads as it did. -/
def fnExactBowForceSpec : ChangeSpec := { name := "fnExactBowForce", fn := fun _ => fun
  | [d1, d2, d3] => { results := [.lit (.bool true)], args := [d1, d2, d3] }
  | _ => none }
def fnExactBowForceRow : OpenClaim := { program := "ytkckobbmejckiaa", sum := "552b3b2ab40343a37ba001c6782ca1baf4b80b6053adfe93ac2fc39b832a7ca0", func := "loop.example/g03222/laws.FnExactBowForce", spec := "fnExactBowForce", inPlace := ["math.Float32bits", "math.Float32frombits"], apart := false }
def FnExactBowForceSaid : Prop := fnExactBowForceRow.holds Try.pinned (OpenSpec.ofChange fnExactBowForceSpec)

/-- ITS FALSE NEIGHBOUR: 'it returns false'. Refute it at one input. -/
def fnExactBowForceWrong : ChangeSpec := { name := "fnExactBowForce", fn := fun _ => fun
  | [d1, d2, d3] => { results := [.lit (.bool false)], args := [d1, d2, d3] }
  | _ => none }
def FnExactBowForceWrongFalsely : Prop := fnExactBowForceRow.holds Try.pinned (OpenSpec.ofChange fnExactBowForceWrong)

/-- 'laws.FnExactStrikeShape': WHATEVER THE INPUT: true; the input reads as it did. -/
def fnExactStrikeShapeSpec : ChangeSpec := { name := "fnExactStrikeShape", fn := fun _ => fun
  | [d1, d2] => { results := [.lit (.bool true)], args := [d1, d2] }
  | _ => none }
def fnExactStrikeShapeRow : OpenClaim := { program := "ytkckobbmejckiaa", sum := "552b3b2ab40343a37ba001c6782ca1baf4b80b6053adfe93ac2fc39b832a7ca0", func := "loop.example/g03222/laws.FnExactStrikeShape", spec := "fnExactStrikeShape", apart := false }
def FnExactStrikeShapeSaid : Prop := fnExactStrikeShapeRow.holds Try.pinned (OpenSpec.ofChange fnExactStrikeShapeSpec)

/-- ITS FALSE NEIGHBOUR: 'it returns false'. Refute it at one input. -/
def fnExactStrikeShapeWrong : ChangeSpec := { name := "fnExactStrikeShape", fn := fun _ => fun
  | [d1, d2] => { results := [.lit (.bool false)], args := [d1, d2] }
  | _ => none }
def FnExactStrikeShapeWrongFalsely : Prop := fnExactStrikeShapeRow.holds Try.pinned (OpenSpec.ofChange fnExactStrikeShapeWrong)

/-- 'laws.FnExactFitReal': WHATEVER THE INPUT: true; the input reads as it did. -/
def fnExactFitRealSpec : ChangeSpec := { name := "fnExactFitReal", fn := fun _ => fun
  | [d] => { results := [.lit (.bool true)], args := [d] }
  | _ => none }
def fnExactFitRealRow : OpenClaim := { program := "ytkckobbmejckiaa", sum := "552b3b2ab40343a37ba001c6782ca1baf4b80b6053adfe93ac2fc39b832a7ca0", func := "loop.example/g03222/laws.FnExactFitReal", spec := "fnExactFitReal", inPlace := ["math.Float64bits", "math.Float64frombits"], apart := false }
def FnExactFitRealSaid : Prop := fnExactFitRealRow.holds Try.pinned (OpenSpec.ofChange fnExactFitRealSpec)

/-- ITS FALSE NEIGHBOUR: 'it returns false'. Refute it at one input. -/
def fnExactFitRealWrong : ChangeSpec := { name := "fnExactFitReal", fn := fun _ => fun
  | [d] => { results := [.lit (.bool false)], args := [d] }
  | _ => none }
def FnExactFitRealWrongFalsely : Prop := fnExactFitRealRow.holds Try.pinned (OpenSpec.ofChange fnExactFitRealWrong)

/- THE SECOND FORM. 'bulk': how many values and letters a reading holds, each counted each time it is reached (what is shared counts as often as it is met; a slice's spare places count too). A statement '..UptoSaid' is the law's where the arguments, and the package variables that the reading takes, are together of bulk at most 1048576: NARROWER than '..Said'. Prove '..Said' where nothing that the law and all that it calls make is longer than what came in: it says more and counts as full. Else prove '..UptoSaid'. A law counts once. -/
mutual
def uptoBulk {H : Type} : DataW H → Nat
  | .lit (.string bytes) => bytes.length + 1
  | .lit _ => 1
  | .nil => 1
  | .ptr d => uptoBulk d + 1
  | .slice elems spare => uptoBulkAll elems + uptoBulkAll spare + 1
  | .agg parts => uptoBulkAll parts + 1
  | .iface _ d => uptoBulk d + 1
  | .map entries => uptoBulkEntries entries + 1
  | .held _ => 1
def uptoBulkAll {H : Type} : List (DataW H) → Nat
  | [] => 0
  | d :: r => uptoBulk d + uptoBulkAll r
def uptoBulkEntries {H : Type} : List (Lit × DataW H) → Nat
  | [] => 0
  | x :: r => uptoBulkEntry x + uptoBulkEntries r
def uptoBulkEntry {H : Type} : Lit × DataW H → Nat
  | (.string bytes, d) => bytes.length + uptoBulk d + 1
  | (_, d) => uptoBulk d + 1
 end
def uptoSmall : (H : Type) → List (DataW H) → Bool := fun _ ds => decide (uptoBulkAll ds ≤ 1048576)
def OpenSpec.upto (s : _root_.Go.ChangeSpec) : _root_.Go.OpenSpec := { _root_.Go.OpenSpec.ofChange s with cond := some uptoSmall }

/-- 'laws.FnExactEnergyOf', WHERE WHAT IT READS IS OF BULK AT MOST 1048576: true; the input reads as it did. -/
def fnExactEnergyOfUptoRow : OpenClaim := { program := "ytkckobbmejckiaa", sum := "552b3b2ab40343a37ba001c6782ca1baf4b80b6053adfe93ac2fc39b832a7ca0", func := "loop.example/g03222/laws.FnExactEnergyOf", spec := "fnExactEnergyOf", apart := false, narrowed := true }
def FnExactEnergyOfUptoSaid : Prop := fnExactEnergyOfUptoRow.holds Try.pinned (OpenSpec.upto fnExactEnergyOfSpec)

/-- 'laws.FnExactPeakOf', WHERE WHAT IT READS IS OF BULK AT MOST 1048576: true; the input reads as it did. -/
def fnExactPeakOfUptoRow : OpenClaim := { program := "ytkckobbmejckiaa", sum := "552b3b2ab40343a37ba001c6782ca1baf4b80b6053adfe93ac2fc39b832a7ca0", func := "loop.example/g03222/laws.FnExactPeakOf", spec := "fnExactPeakOf", inPlace := ["math.Float32bits", "math.Float32frombits"], apart := false, narrowed := true }
def FnExactPeakOfUptoSaid : Prop := fnExactPeakOfUptoRow.holds Try.pinned (OpenSpec.upto fnExactPeakOfSpec)

/-- 'laws.FnExactBowForce', WHERE WHAT IT READS IS OF BULK AT MOST 1048576: true; the input reads as it did. -/
def fnExactBowForceUptoRow : OpenClaim := { program := "ytkckobbmejckiaa", sum := "552b3b2ab40343a37ba001c6782ca1baf4b80b6053adfe93ac2fc39b832a7ca0", func := "loop.example/g03222/laws.FnExactBowForce", spec := "fnExactBowForce", inPlace := ["math.Float32bits", "math.Float32frombits"], apart := false, narrowed := true }
def FnExactBowForceUptoSaid : Prop := fnExactBowForceUptoRow.holds Try.pinned (OpenSpec.upto fnExactBowForceSpec)

/-- 'laws.FnExactStrikeShape', WHERE WHAT IT READS IS OF BULK AT MOST 1048576: true; the input reads as it did. -/
def fnExactStrikeShapeUptoRow : OpenClaim := { program := "ytkckobbmejckiaa", sum := "552b3b2ab40343a37ba001c6782ca1baf4b80b6053adfe93ac2fc39b832a7ca0", func := "loop.example/g03222/laws.FnExactStrikeShape", spec := "fnExactStrikeShape", apart := false, narrowed := true }
def FnExactStrikeShapeUptoSaid : Prop := fnExactStrikeShapeUptoRow.holds Try.pinned (OpenSpec.upto fnExactStrikeShapeSpec)

/-- 'laws.FnExactFitReal', WHERE WHAT IT READS IS OF BULK AT MOST 1048576: true; the input reads as it did. -/
def fnExactFitRealUptoRow : OpenClaim := { program := "ytkckobbmejckiaa", sum := "552b3b2ab40343a37ba001c6782ca1baf4b80b6053adfe93ac2fc39b832a7ca0", func := "loop.example/g03222/laws.FnExactFitReal", spec := "fnExactFitReal", inPlace := ["math.Float64bits", "math.Float64frombits"], apart := false, narrowed := true }
def FnExactFitRealUptoSaid : Prop := fnExactFitRealUptoRow.holds Try.pinned (OpenSpec.upto fnExactFitRealSpec)

end Rows
end Go.Proofs.Ytkckobbmejckiaa

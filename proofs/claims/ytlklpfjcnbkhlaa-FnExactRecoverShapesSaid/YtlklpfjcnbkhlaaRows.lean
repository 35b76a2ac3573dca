/-
  No cell of these rows narrows 'for every input' (looked for: loops, veiled, ifaces, maps, wideKeys, modest, calm, conditions, laid).
  DERIVED. THE GIVEN ROWS OF THIS SEAT. 3 by the template 'for every input the law returns true; each argument reads behind the call as it read before'; 0 by the template 'total and deterministic' (their statements: YtlklpfjcnbkhlaaTotals.lean).
  GIVEN WITH THE SEED: the statements are not yours to turn. If you find one false, say at which input.
  Laid BY PROGRAM, IN A SANDBOX (cutbox-rows.mjs): the forced cells as the released guide's own fill.sh prints them over the translation 7bf2de8143c798fe… (all of the seat's roots in one cut). By AI agents, Wed Nov 11 2026. No macro, syntax, notation, axiom, sorry.
-/
import Derived.Test.YtlklpfjcnbkhlaaChecked
import GoSem.Claim
import GoSem.ClaimJoined
import GoSem.ClaimMapViews
import Derived.JoinedTies
import Derived.KernelRfl
namespace Go.Proofs.Ytlklpfjcnbkhlaa
/- THE CELL 'sum', in the pinned program and in every row, IS THE sha256 OF THE DUMP (.gsa) THAT YtlklpfjcnbkhlaaProg.lean LOADS. Nothing in Lean hashes anything: it is a label: what it is worth is what the hold of that sum in a sandbox is worth. -/
noncomputable def Try.pinned : Pinned := { name := "ytlklpfjcnbkhlaa", sum := "7bf2de8143c798feebfa5b8dcc64b2dbf92b9bd5f3c163c5a9b126bc2a8c9b6a", checked := Try.checked }
namespace Rows
def none {H : Type} : Left H := { results := [], args := [] }

/-- 'laws.FnExactStoreShapes': WHATEVER THE INPUT: true; the input reads as it did. -/
def fnExactStoreShapesSpec : ChangeSpec := { name := "fnExactStoreShapes", fn := fun _ => fun
  | [d] => { results := [.lit (.bool true)], args := [d] }
  | _ => none }
def fnExactStoreShapesRow : OpenClaim := { program := "ytlklpfjcnbkhlaa", sum := "7bf2de8143c798feebfa5b8dcc64b2dbf92b9bd5f3c163c5a9b126bc2a8c9b6a", func := "loop.example/g01318/laws.FnExactStoreShapes", spec := "fnExactStoreShapes", apart := false }
def FnExactStoreShapesSaid : Prop := fnExactStoreShapesRow.holds Try.pinned (OpenSpec.ofChange fnExactStoreShapesSpec)

/-- ITS FALSE NEIGHBOUR: 'it returns false'. Refute it at one input. -/
def fnExactStoreShapesWrong : ChangeSpec := { name := "fnExactStoreShapes", fn := fun _ => fun
  | [d] => { results := [.lit (.bool false)], args := [d] }
  | _ => none }
def FnExactStoreShapesWrongFalsely : Prop := fnExactStoreShapesRow.holds Try.pinned (OpenSpec.ofChange fnExactStoreShapesWrong)

/-- 'laws.FnExactLoadShape': WHATEVER THE INPUT: true; the input reads as it did. -/
def fnExactLoadShapeSpec : ChangeSpec := { name := "fnExactLoadShape", fn := fun _ => fun
  | [d] => { results := [.lit (.bool true)], args := [d] }
  | _ => none }
def fnExactLoadShapeRow : OpenClaim := { program := "ytlklpfjcnbkhlaa", sum := "7bf2de8143c798feebfa5b8dcc64b2dbf92b9bd5f3c163c5a9b126bc2a8c9b6a", func := "loop.example/g01318/laws.FnExactLoadShape", spec := "fnExactLoadShape", apart := false }
def FnExactLoadShapeSaid : Prop := fnExactLoadShapeRow.holds Try.pinned (OpenSpec.ofChange fnExactLoadShapeSpec)

/-- ITS FALSE NEIGHBOUR: 'it returns false'. Refute it at one input. -/
def fnExactLoadShapeWrong : ChangeSpec := { name := "fnExactLoadShape", fn := fun _ => fun
  | [d] => { results := [.lit (.bool false)], args := [d] }
  | _ => none }
def FnExactLoadShapeWrongFalsely : Prop := fnExactLoadShapeRow.holds Try.pinned (OpenSpec.ofChange fnExactLoadShapeWrong)

/-- 'laws.FnExactRecoverShapes': WHATEVER THE INPUT: true; the input reads as it did. -/
def fnExactRecoverShapesSpec : ChangeSpec := { name := "fnExactRecoverShapes", fn := fun _ => fun
  | [d] => { results := [.lit (.bool true)], args := [d] }
  | _ => none }
def fnExactRecoverShapesRow : OpenClaim := { program := "ytlklpfjcnbkhlaa", sum := "7bf2de8143c798feebfa5b8dcc64b2dbf92b9bd5f3c163c5a9b126bc2a8c9b6a", func := "loop.example/g01318/laws.FnExactRecoverShapes", spec := "fnExactRecoverShapes", apart := false }
def FnExactRecoverShapesSaid : Prop := fnExactRecoverShapesRow.holds Try.pinned (OpenSpec.ofChange fnExactRecoverShapesSpec)

/-- ITS FALSE NEIGHBOUR: 'it returns false'. Refute it at one input. -/
def fnExactRecoverShapesWrong : ChangeSpec := { name := "fnExactRecoverShapes", fn := fun _ => fun
  | [d] => { results := [.lit (.bool false)], args := [d] }
  | _ => none }
def FnExactRecoverShapesWrongFalsely : Prop := fnExactRecoverShapesRow.holds Try.pinned (OpenSpec.ofChange fnExactRecoverShapesWrong)

/- THE SECOND FORM. 'bulk': how many values and letters a reading holds, each counted each time it is reached (what is shared counts as often as it is met; a slice's spare places count too). A statement '..UptoSaid' is the law's where the arguments, and the package variables that the reading takes, are together of bulk at most 1048576: NARROWER than '..Said'. Prove '..Said' where nothing that the law and all that it calls make is longer than what came in: it says more and counts as full. Else prove '..UptoSaid'. A law counts once. -/
mutual
def uptoBulk {H : Type} : DataW H → Nat
  | .lit (.string bytes) => bytes.length + 1
  | .lit _ => 1
  | .nil => 1
  | .ptr d => uptoBulk d + 1
  | .slice elems spare => uptoBulkAll elems + uptoBulkAll spare + 1
  | .agg parts => uptoBulkAll parts + 1
  | .iface _ d => uptoBulk d + 1
  | .map entries => uptoBulkEntries entries + 1
  | .held _ => 1
def uptoBulkAll {H : Type} : List (DataW H) → Nat
  | [] => 0
  | d :: r => uptoBulk d + uptoBulkAll r
def uptoBulkEntries {H : Type} : List (Lit × DataW H) → Nat
  | [] => 0
  | x :: r => uptoBulkEntry x + uptoBulkEntries r
def uptoBulkEntry {H : Type} : Lit × DataW H → Nat
  | (.string bytes, d) => bytes.length + uptoBulk d + 1
  | (_, d) => uptoBulk d + 1
 end
def uptoSmall : (H : Type) → List (DataW H) → Bool := fun _ ds => decide (uptoBulkAll ds ≤ 1048576)
def OpenSpec.upto (s : _root_.Go.ChangeSpec) : _root_.Go.OpenSpec := { _root_.Go.OpenSpec.ofChange s with cond := some uptoSmall }

/-- 'laws.FnExactStoreShapes', WHERE WHAT IT READS IS OF BULK AT MOST 1048576: true; the input reads as it did. -/
def fnExactStoreShapesUptoRow : OpenClaim := { program := "ytlklpfjcnbkhlaa", sum := "7bf2de8143c798feebfa5b8dcc64b2dbf92b9bd5f3c163c5a9b126bc2a8c9b6a", func := "loop.example/g01318/laws.FnExactStoreShapes", spec := "fnExactStoreShapes", apart := false, narrowed := true }
def FnExactStoreShapesUptoSaid : Prop := fnExactStoreShapesUptoRow.holds Try.pinned (OpenSpec.upto fnExactStoreShapesSpec)

/-- 'laws.FnExactLoadShape', WHERE WHAT IT READS IS OF BULK AT MOST 1048576: true; the input reads as it did. -/
def fnExactLoadShapeUptoRow : OpenClaim := { program := "ytlklpfjcnbkhlaa", sum := "7bf2de8143c798feebfa5b8dcc64b2dbf92b9bd5f3c163c5a9b126bc2a8c9b6a", func := "loop.example/g01318/laws.FnExactLoadShape", spec := "fnExactLoadShape", apart := false, narrowed := true }
def FnExactLoadShapeUptoSaid : Prop := fnExactLoadShapeUptoRow.holds Try.pinned (OpenSpec.upto fnExactLoadShapeSpec)

/-- 'laws.FnExactRecoverShapes', WHERE WHAT IT READS IS OF BULK AT MOST 1048576: true; the input reads as it did. -/
def fnExactRecoverShapesUptoRow : OpenClaim := { program := "ytlklpfjcnbkhlaa", sum := "7bf2de8143c798feebfa5b8dcc64b2dbf92b9bd5f3c163c5a9b126bc2a8c9b6a", func := "loop.example/g01318/laws.FnExactRecoverShapes", spec := "fnExactRecoverShapes", apart := false, narrowed := true }
def FnExactRecoverShapesUptoSaid : Prop := fnExactRecoverShapesUptoRow.holds Try.pinned (OpenSpec.upto fnExactRecoverShapesSpec)

end Rows
end Go.Proofs.Ytlklpfjcnbkhlaa

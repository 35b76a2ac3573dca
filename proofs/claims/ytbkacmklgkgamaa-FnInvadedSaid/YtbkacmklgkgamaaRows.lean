/-
  No cell of these rows narrows 'for every input' (looked for: loops, veiled, ifaces, maps, wideKeys, modest, calm, conditions, laid).
  DERIVED. THE GIVEN ROWS OF THIS SEAT. 3 by the template 'for every input the law returns true; each argument reads behind the call as it read before'; 0 by the template 'total and deterministic' (their statements: YtbkacmklgkgamaaTotals.lean).
  GIVEN WITH THE SEED: the statements are not yours to turn. If you find one false, say at which input.
  Laid BY PROGRAM, IN A SANDBOX (cutbox-rows.mjs): the forced cells as the released guide's own fill.sh prints them over the translation df0243b6fcb092c1… (all of the seat's roots in one cut). By AI agents, Wed Nov 11 2026. No macro, syntax, notation, axiom, sorry.
-/
import Derived.Test.YtbkacmklgkgamaaChecked
import GoSem.Claim
import GoSem.ClaimJoined
import GoSem.ClaimMapViews
import Derived.JoinedTies
import Derived.KernelRfl
namespace Go.Proofs.Ytbkacmklgkgamaa
/- THE CELL 'sum', in the pinned program and in every row, IS THE sha256 OF THE DUMP (.gsa) THAT YtbkacmklgkgamaaProg.lean LOADS. Nothing in Lean hashes anything: it is a label: what it is worth is what the hold of that sum in a sandbox is worth. -/
noncomputable def Try.pinned : Pinned := { name := "ytbkacmklgkgamaa", sum := "df0243b6fcb092c1a3b35993c03d809403b33432ddf04274d4a385b5bedf6ca3", checked := Try.checked }
namespace Rows
def none {H : Type} : Left H := { results := [], args := [] }

/-- 'laws.FnShapes': WHATEVER THE INPUT: true; the input reads as it did. -/
def fnShapesSpec : ChangeSpec := { name := "fnShapes", fn := fun _ => fun
  | [d1, d2] => { results := [.lit (.bool true)], args := [d1, d2] }
  | _ => none }
def fnShapesRow : OpenClaim := { program := "ytbkacmklgkgamaa", sum := "df0243b6fcb092c1a3b35993c03d809403b33432ddf04274d4a385b5bedf6ca3", func := "loop.example/g01318/laws.FnShapes", spec := "fnShapes", unfollowed := true, recurses := true, apart := false }
def FnShapesSaid : Prop := fnShapesRow.holds Try.pinned (OpenSpec.ofChange fnShapesSpec)

/-- ITS FALSE NEIGHBOUR: 'it returns false'. Refute it at one input. -/
def fnShapesWrong : ChangeSpec := { name := "fnShapes", fn := fun _ => fun
  | [d1, d2] => { results := [.lit (.bool false)], args := [d1, d2] }
  | _ => none }
def FnShapesWrongFalsely : Prop := fnShapesRow.holds Try.pinned (OpenSpec.ofChange fnShapesWrong)

/-- 'laws.FnInvaded': WHATEVER THE INPUT: true; the input reads as it did. -/
def fnInvadedSpec : ChangeSpec := { name := "fnInvaded", fn := fun _ => fun
  | [d1, d2] => { results := [.lit (.bool true)], args := [d1, d2] }
  | _ => none }
def fnInvadedRow : OpenClaim := { program := "ytbkacmklgkgamaa", sum := "df0243b6fcb092c1a3b35993c03d809403b33432ddf04274d4a385b5bedf6ca3", func := "loop.example/g01318/laws.FnInvaded", spec := "fnInvaded", unfollowed := true, recurses := true, apart := false }
def FnInvadedSaid : Prop := fnInvadedRow.holds Try.pinned (OpenSpec.ofChange fnInvadedSpec)

/-- ITS FALSE NEIGHBOUR: 'it returns false'. Refute it at one input. -/
def fnInvadedWrong : ChangeSpec := { name := "fnInvaded", fn := fun _ => fun
  | [d1, d2] => { results := [.lit (.bool false)], args := [d1, d2] }
  | _ => none }
def FnInvadedWrongFalsely : Prop := fnInvadedRow.holds Try.pinned (OpenSpec.ofChange fnInvadedWrong)

/-- 'laws.FnExactThresholdOf': WHATEVER THE INPUT: true; the input reads as it did. -/
def fnExactThresholdOfSpec : ChangeSpec := { name := "fnExactThresholdOf", fn := fun _ => fun
  | [d1, d2, d3] => { results := [.lit (.bool true)], args := [d1, d2, d3] }
  | _ => none }
def fnExactThresholdOfRow : OpenClaim := { program := "ytbkacmklgkgamaa", sum := "df0243b6fcb092c1a3b35993c03d809403b33432ddf04274d4a385b5bedf6ca3", func := "loop.example/g01318/laws.FnExactThresholdOf", spec := "fnExactThresholdOf", unfollowed := true, recurses := true, apart := false }
def FnExactThresholdOfSaid : Prop := fnExactThresholdOfRow.holds Try.pinned (OpenSpec.ofChange fnExactThresholdOfSpec)

/-- ITS FALSE NEIGHBOUR: 'it returns false'. Refute it at one input. -/
def fnExactThresholdOfWrong : ChangeSpec := { name := "fnExactThresholdOf", fn := fun _ => fun
  | [d1, d2, d3] => { results := [.lit (.bool false)], args := [d1, d2, d3] }
  | _ => none }
def FnExactThresholdOfWrongFalsely : Prop := fnExactThresholdOfRow.holds Try.pinned (OpenSpec.ofChange fnExactThresholdOfWrong)

/- THE SECOND FORM. 'bulk': how many values and letters a reading holds, each counted each time it is reached (what is shared counts as often as it is met; a slice's spare places count too). A statement '..UptoSaid' is the law's where the arguments, and the package variables that the reading takes, are together of bulk at most 1048576: NARROWER than '..Said'. Prove '..Said' where nothing that the law and all that it calls make is longer than what came in: it says more and counts as full. Else prove '..UptoSaid'. A law counts once. -/
mutual
def uptoBulk {H : Type} : DataW H → Nat
  | .lit (.string bytes) => bytes.length + 1
  | .lit _ => 1
  | .nil => 1
  | .ptr d => uptoBulk d + 1
  | .slice elems spare => uptoBulkAll elems + uptoBulkAll spare + 1
  | .agg parts => uptoBulkAll parts + 1
  | .iface _ d => uptoBulk d + 1
  | .map entries => uptoBulkEntries entries + 1
  | .held _ => 1
def uptoBulkAll {H : Type} : List (DataW H) → Nat
  | [] => 0
  | d :: r => uptoBulk d + uptoBulkAll r
def uptoBulkEntries {H : Type} : List (Lit × DataW H) → Nat
  | [] => 0
  | x :: r => uptoBulkEntry x + uptoBulkEntries r
def uptoBulkEntry {H : Type} : Lit × DataW H → Nat
  | (.string bytes, d) => bytes.length + uptoBulk d + 1
  | (_, d) => uptoBulk d + 1
 end
def uptoSmall : (H : Type) → List (DataW H) → Bool := fun _ ds => decide (uptoBulkAll ds ≤ 1048576)
def OpenSpec.upto (s : _root_.Go.ChangeSpec) : _root_.Go.OpenSpec := { _root_.Go.OpenSpec.ofChange s with cond := some uptoSmall }

/-- 'laws.FnShapes', WHERE WHAT IT READS IS OF BULK AT MOST 1048576: true; the input reads as it did. -/
def fnShapesUptoRow : OpenClaim := { program := "ytbkacmklgkgamaa", sum := "df0243b6fcb092c1a3b35993c03d809403b33432ddf04274d4a385b5bedf6ca3", func := "loop.example/g01318/laws.FnShapes", spec := "fnShapes", unfollowed := true, recurses := true, apart := false, narrowed := true }
def FnShapesUptoSaid : Prop := fnShapesUptoRow.holds Try.pinned (OpenSpec.upto fnShapesSpec)

/-- 'laws.FnInvaded', WHERE WHAT IT READS IS OF BULK AT MOST 1048576: true; the input reads as it did. -/
def fnInvadedUptoRow : OpenClaim := { program := "ytbkacmklgkgamaa", sum := "df0243b6fcb092c1a3b35993c03d809403b33432ddf04274d4a385b5bedf6ca3", func := "loop.example/g01318/laws.FnInvaded", spec := "fnInvaded", unfollowed := true, recurses := true, apart := false, narrowed := true }
def FnInvadedUptoSaid : Prop := fnInvadedUptoRow.holds Try.pinned (OpenSpec.upto fnInvadedSpec)

/-- 'laws.FnExactThresholdOf', WHERE WHAT IT READS IS OF BULK AT MOST 1048576: true; the input reads as it did. -/
def fnExactThresholdOfUptoRow : OpenClaim := { program := "ytbkacmklgkgamaa", sum := "df0243b6fcb092c1a3b35993c03d809403b33432ddf04274d4a385b5bedf6ca3", func := "loop.example/g01318/laws.FnExactThresholdOf", spec := "fnExactThresholdOf", unfollowed := true, recurses := true, apart := false, narrowed := true }
def FnExactThresholdOfUptoSaid : Prop := fnExactThresholdOfUptoRow.holds Try.pinned (OpenSpec.upto fnExactThresholdOfSpec)

end Rows
end Go.Proofs.Ytbkacmklgkgamaa

/-
  No cell of these rows narrows 'for every input' (looked for: loops, veiled, ifaces, maps, wideKeys, modest, calm, conditions, laid).
  DERIVED. THE GIVEN ROWS OF THIS SEAT. 2 by the template 'for every input the law returns true; each argument reads behind the call as it read before'; 0 by the template 'total and deterministic' (their statements: YthgmjnhfokpioaaTotals.lean).
  GIVEN WITH THE SEED: the statements are not yours to turn. If you find one false, say at which input.
  Laid BY PROGRAM, IN A SANDBOX (cutbox-rows.mjs): the forced cells as the released guide's own fill.sh prints them over the translation cbcdc2e98c475d80… (all of the seat's roots in one cut). By AI agents, Wed Nov 11 2026. No macro, syntax, notation, axiom, sorry.
-/
import Derived.Test.YthgmjnhfokpioaaChecked
import GoSem.Claim
import GoSem.ClaimJoined
import GoSem.ClaimMapViews
import Derived.JoinedTies
import Derived.KernelRfl
namespace Go.Proofs.Ythgmjnhfokpioaa
/- THE CELL 'sum', in the pinned program and in every row, IS THE sha256 OF THE DUMP (.gsa) THAT YthgmjnhfokpioaaProg.lean LOADS. Nothing in Lean hashes anything: it is a label: what it is worth is what the hold of that sum in a sandbox is worth. -/
noncomputable def Try.pinned : Pinned := { name := "ythgmjnhfokpioaa", sum := "cbcdc2e98c475d802d4938675d6640ba2b544b95d782fc352b17cd8f3cb00268", checked := Try.checked }
namespace Rows
def none {H : Type} : Left H := { results := [], args := [] }

/-- 'laws.FnExactStickOne': WHATEVER THE INPUT: true; the input reads as it did. -/
def fnExactStickOneSpec : ChangeSpec := { name := "fnExactStickOne", fn := fun _ => fun
  | [d1, d2, d3] => { results := [.lit (.bool true)], args := [d1, d2, d3] }
  | _ => none }
def fnExactStickOneRow : OpenClaim := { program := "ythgmjnhfokpioaa", sum := "cbcdc2e98c475d802d4938675d6640ba2b544b95d782fc352b17cd8f3cb00268", func := "loop.example/g01318/laws.FnExactStickOne", spec := "fnExactStickOne", unfollowed := true, recurses := true, apart := false }
def FnExactStickOneSaid : Prop := fnExactStickOneRow.holds Try.pinned (OpenSpec.ofChange fnExactStickOneSpec)

/-- ITS FALSE NEIGHBOUR: 'it returns false'. Refute it at one input. -/
def fnExactStickOneWrong : ChangeSpec := { name := "fnExactStickOne", fn := fun _ => fun
  | [d1, d2, d3] => { results := [.lit (.bool false)], args := [d1, d2, d3] }
  | _ => none }
def FnExactStickOneWrongFalsely : Prop := fnExactStickOneRow.holds Try.pinned (OpenSpec.ofChange fnExactStickOneWrong)

/-- 'laws.FnExactStickMany': WHATEVER THE INPUT: true; the input reads as it did. -/
def fnExactStickManySpec : ChangeSpec := { name := "fnExactStickMany", fn := fun _ => fun
  | [d1, d2, d3, d4] => { results := [.lit (.bool true)], args := [d1, d2, d3, d4] }
  | _ => none }
def fnExactStickManyRow : OpenClaim := { program := "ythgmjnhfokpioaa", sum := "cbcdc2e98c475d802d4938675d6640ba2b544b95d782fc352b17cd8f3cb00268", func := "loop.example/g01318/laws.FnExactStickMany", spec := "fnExactStickMany", unfollowed := true, recurses := true, apart := false }
def FnExactStickManySaid : Prop := fnExactStickManyRow.holds Try.pinned (OpenSpec.ofChange fnExactStickManySpec)

/-- ITS FALSE NEIGHBOUR: 'it returns false'. Refute it at one input. -/
def fnExactStickManyWrong : ChangeSpec := { name := "fnExactStickMany", fn := fun _ => fun
  | [d1, d2, d3, d4] => { results := [.lit (.bool false)], args := [d1, d2, d3, d4] }
  | _ => none }
def FnExactStickManyWrongFalsely : Prop := fnExactStickManyRow.holds Try.pinned (OpenSpec.ofChange fnExactStickManyWrong)

/- THE SECOND FORM. 'bulk': how many values and letters a reading holds, each counted each time it is reached (what is shared counts as often as it is met; a slice's spare places count too). A statement '..UptoSaid' is the law's where the arguments, and the package variables that the reading takes, are together of bulk at most 1048576: NARROWER than '..Said'. Prove '..Said' where nothing that the law and all that it calls make is longer than what came in: it says more and counts as full. Else prove '..UptoSaid'. A law counts once. -/
mutual
def uptoBulk {H : Type} : DataW H → Nat
  | .lit (.string bytes) => bytes.length + 1
  | .lit _ => 1
  | .nil => 1
  | .ptr d => uptoBulk d + 1
  | .slice elems spare => uptoBulkAll elems + uptoBulkAll spare + 1
  | .agg parts => uptoBulkAll parts + 1
  | .iface _ d => uptoBulk d + 1
  | .map entries => uptoBulkEntries entries + 1
  | .held _ => 1
def uptoBulkAll {H : Type} : List (DataW H) → Nat
  | [] => 0
  | d :: r => uptoBulk d + uptoBulkAll r
def uptoBulkEntries {H : Type} : List (Lit × DataW H) → Nat
  | [] => 0
  | x :: r => uptoBulkEntry x + uptoBulkEntries r
def uptoBulkEntry {H : Type} : Lit × DataW H → Nat
  | (.string bytes, d) => bytes.length + uptoBulk d + 1
  | (_, d) => uptoBulk d + 1
 end
def uptoSmall : (H : Type) → List (DataW H) → Bool := fun _ ds => decide (uptoBulkAll ds ≤ 1048576)
def OpenSpec.upto (s : _root_.Go.ChangeSpec) : _root_.Go.OpenSpec := { _root_.Go.OpenSpec.ofChange s with cond := some uptoSmall }

/-- 'laws.FnExactStickOne', WHERE WHAT IT READS IS OF BULK AT MOST 1048576: true; the input reads as it did. -/
def fnExactStickOneUptoRow : OpenClaim := { program := "ythgmjnhfokpioaa", sum := "cbcdc2e98c475d802d4938675d6640ba2b544b95d782fc352b17cd8f3cb00268", func := "loop.example/g01318/laws.FnExactStickOne", spec := "fnExactStickOne", unfollowed := true, recurses := true, apart := false, narrowed := true }
def FnExactStickOneUptoSaid : Prop := fnExactStickOneUptoRow.holds Try.pinned (OpenSpec.upto fnExactStickOneSpec)

/-- 'laws.FnExactStickMany', WHERE WHAT IT READS IS OF BULK AT MOST 1048576: true; the input reads as it did. -/
def fnExactStickManyUptoRow : OpenClaim := { program := "ythgmjnhfokpioaa", sum := "cbcdc2e98c475d802d4938675d6640ba2b544b95d782fc352b17cd8f3cb00268", func := "loop.example/g01318/laws.FnExactStickMany", spec := "fnExactStickMany", unfollowed := true, recurses := true, apart := false, narrowed := true }
def FnExactStickManyUptoSaid : Prop := fnExactStickManyUptoRow.holds Try.pinned (OpenSpec.upto fnExactStickManySpec)

end Rows
end Go.Proofs.Ythgmjnhfokpioaa

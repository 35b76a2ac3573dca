/-
  No cell of these rows narrows 'for every input' (looked for: loops, veiled, ifaces, maps, wideKeys, modest, calm, conditions, laid).
  DERIVED. THE GIVEN ROWS OF THIS SEAT. 4 by the template 'for every input the law returns true; each argument reads behind the call as it read before'; 0 by the template 'total and deterministic' (their statements: YtoclpjhhjkcejaaTotals.lean).
  GIVEN WITH THE SEED: the statements are not yours to turn. If you find one false, say at which input.
  Laid BY PROGRAM, IN A SANDBOX (cutbox-rows.mjs): the forced cells as the released guide's own fill.sh prints them over the translation 7424e2f9273737f6… (all of the seat's roots in one cut). By AI agents, Wed Nov 11 2026. No macro, syntax, notation, axiom, sorry.
-/
import Derived.Test.YtoclpjhhjkcejaaChecked
import GoSem.Claim
import GoSem.ClaimJoined
import GoSem.ClaimMapViews
import Derived.JoinedTies
import Derived.KernelRfl
namespace Go.Proofs.Ytoclpjhhjkcejaa
/- THE CELL 'sum', in the pinned program and in every row, IS THE sha256 OF THE DUMP (.gsa) THAT YtoclpjhhjkcejaaProg.lean LOADS. Nothing in Lean hashes anything: it is a label: what it is worth is what the hold of that sum in a sandbox is worth. -/
noncomputable def Try.pinned : Pinned := { name := "ytoclpjhhjkcejaa", sum := "7424e2f9273737f64bdf07dd23d8385d857711ad6c2f517507c3907340745140", checked := Try.checked }
namespace Rows
def none {H : Type} : Left H := { results := [], args := [] }

/-- 'laws.FnExactBurnTimes': WHATEVER THE INPUT: true; the input reads as it did. -/
def fnExactBurnTimesSpec : ChangeSpec := { name := "fnExactBurnTimes", fn := fun _ => fun
  | [d] => { results := [.lit (.bool true)], args := [d] }
  | _ => none }
def fnExactBurnTimesRow : OpenClaim := { program := "ytoclpjhhjkcejaa", sum := "7424e2f9273737f64bdf07dd23d8385d857711ad6c2f517507c3907340745140", func := "loop.example/g01318/laws.FnExactBurnTimes", spec := "fnExactBurnTimes", apart := false }
def FnExactBurnTimesSaid : Prop := fnExactBurnTimesRow.holds Try.pinned (OpenSpec.ofChange fnExactBurnTimesSpec)

/-- ITS FALSE NEIGHBOUR: 'it returns false'. Refute it at one input. -/
def fnExactBurnTimesWrong : ChangeSpec := { name := "fnExactBurnTimes", fn := fun _ => fun
  | [d] => { results := [.lit (.bool false)], args := [d] }
  | _ => none }
def FnExactBurnTimesWrongFalsely : Prop := fnExactBurnTimesRow.holds Try.pinned (OpenSpec.ofChange fnExactBurnTimesWrong)

/-- 'laws.FnExactGroupsOf': WHATEVER THE INPUT: true; the input reads as it did. -/
def fnExactGroupsOfSpec : ChangeSpec := { name := "fnExactGroupsOf", fn := fun _ => fun
  | [d] => { results := [.lit (.bool true)], args := [d] }
  | _ => none }
def fnExactGroupsOfRow : OpenClaim := { program := "ytoclpjhhjkcejaa", sum := "7424e2f9273737f64bdf07dd23d8385d857711ad6c2f517507c3907340745140", func := "loop.example/g01318/laws.FnExactGroupsOf", spec := "fnExactGroupsOf", unfollowed := true, recurses := true, apart := false }
def FnExactGroupsOfSaid : Prop := fnExactGroupsOfRow.holds Try.pinned (OpenSpec.ofChange fnExactGroupsOfSpec)

/-- ITS FALSE NEIGHBOUR: 'it returns false'. Refute it at one input. -/
def fnExactGroupsOfWrong : ChangeSpec := { name := "fnExactGroupsOf", fn := fun _ => fun
  | [d] => { results := [.lit (.bool false)], args := [d] }
  | _ => none }
def FnExactGroupsOfWrongFalsely : Prop := fnExactGroupsOfRow.holds Try.pinned (OpenSpec.ofChange fnExactGroupsOfWrong)

/-- 'laws.FnExactSpansOf': WHATEVER THE INPUT: true; the input reads as it did. -/
def fnExactSpansOfSpec : ChangeSpec := { name := "fnExactSpansOf", fn := fun _ => fun
  | [d] => { results := [.lit (.bool true)], args := [d] }
  | _ => none }
def fnExactSpansOfRow : OpenClaim := { program := "ytoclpjhhjkcejaa", sum := "7424e2f9273737f64bdf07dd23d8385d857711ad6c2f517507c3907340745140", func := "loop.example/g01318/laws.FnExactSpansOf", spec := "fnExactSpansOf", unfollowed := true, recurses := true, apart := false }
def FnExactSpansOfSaid : Prop := fnExactSpansOfRow.holds Try.pinned (OpenSpec.ofChange fnExactSpansOfSpec)

/-- ITS FALSE NEIGHBOUR: 'it returns false'. Refute it at one input. -/
def fnExactSpansOfWrong : ChangeSpec := { name := "fnExactSpansOf", fn := fun _ => fun
  | [d] => { results := [.lit (.bool false)], args := [d] }
  | _ => none }
def FnExactSpansOfWrongFalsely : Prop := fnExactSpansOfRow.holds Try.pinned (OpenSpec.ofChange fnExactSpansOfWrong)

/-- 'laws.FnExactFirstPath': WHATEVER THE INPUT: true; the input reads as it did. -/
def fnExactFirstPathSpec : ChangeSpec := { name := "fnExactFirstPath", fn := fun _ => fun
  | [d] => { results := [.lit (.bool true)], args := [d] }
  | _ => none }
def fnExactFirstPathRow : OpenClaim := { program := "ytoclpjhhjkcejaa", sum := "7424e2f9273737f64bdf07dd23d8385d857711ad6c2f517507c3907340745140", func := "loop.example/g01318/laws.FnExactFirstPath", spec := "fnExactFirstPath", unfollowed := true, recurses := true, apart := false }
def FnExactFirstPathSaid : Prop := fnExactFirstPathRow.holds Try.pinned (OpenSpec.ofChange fnExactFirstPathSpec)

/-- ITS FALSE NEIGHBOUR: 'it returns false'. Refute it at one input. -/
def fnExactFirstPathWrong : ChangeSpec := { name := "fnExactFirstPath", fn := fun _ => fun
  | [d] => { results := [.lit (.bool false)], args := [d] }
  | _ => none }
def FnExactFirstPathWrongFalsely : Prop := fnExactFirstPathRow.holds Try.pinned (OpenSpec.ofChange fnExactFirstPathWrong)

/- THE SECOND FORM. 'bulk': how many values and letters a reading holds, each counted each time it is reached (what is shared counts as often as it is met; a slice's spare places count too). A statement '..UptoSaid' is the law's where the arguments, and the package variables that the reading takes, are together of bulk at most 1048576: NARROWER than '..Said'. Prove '..Said' where nothing that the law and all that it calls make is longer than what came in: it says more and counts as full. Else prove '..UptoSaid'. A law counts once. -/
mutual
def uptoBulk {H : Type} : DataW H → Nat
  | .lit (.string bytes) => bytes.length + 1
  | .lit _ => 1
  | .nil => 1
  | .ptr d => uptoBulk d + 1
  | .slice elems spare => uptoBulkAll elems + uptoBulkAll spare + 1
  | .agg parts => uptoBulkAll parts + 1
  | .iface _ d => uptoBulk d + 1
  | .map entries => uptoBulkEntries entries + 1
  | .held _ => 1
def uptoBulkAll {H : Type} : List (DataW H) → Nat
  | [] => 0
  | d :: r => uptoBulk d + uptoBulkAll r
def uptoBulkEntries {H : Type} : List (Lit × DataW H) → Nat
  | [] => 0
  | x :: r => uptoBulkEntry x + uptoBulkEntries r
def uptoBulkEntry {H : Type} : Lit × DataW H → Nat
  | (.string bytes, d) => bytes.length + uptoBulk d + 1
  | (_, d) => uptoBulk d + 1
 end
def uptoSmall : (H : Type) → List (DataW H) → Bool := fun _ ds => decide (uptoBulkAll ds ≤ 1048576)
def OpenSpec.upto (s : _root_.Go.ChangeSpec) : _root_.Go.OpenSpec := { _root_.Go.OpenSpec.ofChange s with cond := some uptoSmall }

/-- 'laws.FnExactBurnTimes', WHERE WHAT IT READS IS OF BULK AT MOST 1048576: true; the input reads as it did. -/
def fnExactBurnTimesUptoRow : OpenClaim := { program := "ytoclpjhhjkcejaa", sum := "7424e2f9273737f64bdf07dd23d8385d857711ad6c2f517507c3907340745140", func := "loop.example/g01318/laws.FnExactBurnTimes", spec := "fnExactBurnTimes", apart := false, narrowed := true }
def FnExactBurnTimesUptoSaid : Prop := fnExactBurnTimesUptoRow.holds Try.pinned (OpenSpec.upto fnExactBurnTimesSpec)

/-- 'laws.FnExactGroupsOf', WHERE WHAT IT READS IS OF BULK AT MOST 1048576: true; the input reads as it did. -/
def fnExactGroupsOfUptoRow : OpenClaim := { program := "ytoclpjhhjkcejaa", sum := "7424e2f9273737f64bdf07dd23d8385d857711ad6c2f517507c3907340745140", func := "loop.example/g01318/laws.FnExactGroupsOf", spec := "fnExactGroupsOf", unfollowed := true, recurses := true, apart := false, narrowed := true }
def FnExactGroupsOfUptoSaid : Prop := fnExactGroupsOfUptoRow.holds Try.pinned (OpenSpec.upto fnExactGroupsOfSpec)

/-- 'laws.FnExactSpansOf', WHERE WHAT IT READS IS OF BULK AT MOST 1048576: true; the input reads as it did. -/
def fnExactSpansOfUptoRow : OpenClaim := { program := "ytoclpjhhjkcejaa", sum := "7424e2f9273737f64bdf07dd23d8385d857711ad6c2f517507c3907340745140", func := "loop.example/g01318/laws.FnExactSpansOf", spec := "fnExactSpansOf", unfollowed := true, recurses := true, apart := false, narrowed := true }
def FnExactSpansOfUptoSaid : Prop := fnExactSpansOfUptoRow.holds Try.pinned (OpenSpec.upto fnExactSpansOfSpec)

/-- 'laws.FnExactFirstPath', WHERE WHAT IT READS IS OF BULK AT MOST 1048576: true; the input reads as it did. -/
def fnExactFirstPathUptoRow : OpenClaim := { program := "ytoclpjhhjkcejaa", sum := "7424e2f9273737f64bdf07dd23d8385d857711ad6c2f517507c3907340745140", func := "loop.example/g01318/laws.FnExactFirstPath", spec := "fnExactFirstPath", unfollowed := true, recurses := true, apart := false, narrowed := true }
def FnExactFirstPathUptoSaid : Prop := fnExactFirstPathUptoRow.holds Try.pinned (OpenSpec.upto fnExactFirstPathSpec)

end Rows
end Go.Proofs.Ytoclpjhhjkcejaa

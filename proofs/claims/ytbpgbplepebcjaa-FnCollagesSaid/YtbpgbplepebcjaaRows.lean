/-
  No cell of these rows narrows 'for every input' (looked for: loops, veiled, ifaces, maps, wideKeys, modest, calm, conditions, laid).
  DERIVED. THE GIVEN ROWS OF THIS SEAT. 4 by the template 'for every input the law returns true; each argument reads behind the call as it read before'; 0 by the template 'total and deterministic' (their statements: YtbpgbplepebcjaaTotals.lean).
  GIVEN WITH THE SEED: the statements are not yours to turn. If you find one false, say at which input.
  Laid BY PROGRAM, IN A SANDBOX (cutbox-rows.mjs): the forced cells as the released guide's own fill.sh prints them over the translation 905f0f0c1b6297e1… (all of the seat's roots in one cut). By AI agents, Wed Nov 11 2026. No macro, syntax, notation, axiom, sorry.
-/
import Derived.Test.YtbpgbplepebcjaaChecked
import GoSem.Claim
import GoSem.ClaimJoined
import GoSem.ClaimMapViews
import Derived.JoinedTies
import Derived.KernelRfl
namespace Go.Proofs.Ytbpgbplepebcjaa
/- THE CELL 'sum', in the pinned program and in every row, IS THE sha256 OF THE DUMP (.gsa) THAT YtbpgbplepebcjaaProg.lean LOADS. Nothing in Lean hashes anything: it is a label: what it is worth is what the hold of that sum in a sandbox is worth. -/
noncomputable def Try.pinned : Pinned := { name := "ytbpgbplepebcjaa", sum := "905f0f0c1b6297e131c305df6582aab8e1f75fca34d6eda9a24712f3f53e597c", checked := Try.checked }
namespace Rows
def none {H : Type} : Left H := { results := [], args := [] }

/-- 'laws.FnSmalls': WHATEVER THE INPUT: true; the input reads as it did. -/
def fnSmallsSpec : ChangeSpec := { name := "fnSmalls", fn := fun _ => fun
  | [d1, d2] => { results := [.lit (.bool true)], args := [d1, d2] }
  | _ => none }
def fnSmallsRow : OpenClaim := { program := "ytbpgbplepebcjaa", sum := "905f0f0c1b6297e131c305df6582aab8e1f75fca34d6eda9a24712f3f53e597c", func := "loop.example/g01318/laws.FnSmalls", spec := "fnSmalls", inPlace := ["math.Float64bits", "math.Float64frombits", "math.sqrt"], unfollowed := true, recurses := true, apart := false }
def FnSmallsSaid : Prop := fnSmallsRow.holds Try.pinned (OpenSpec.ofChange fnSmallsSpec)

/-- ITS FALSE NEIGHBOUR: 'it returns false'. Refute it at one input. -/
def fnSmallsWrong : ChangeSpec := { name := "fnSmalls", fn := fun _ => fun
  | [d1, d2] => { results := [.lit (.bool false)], args := [d1, d2] }
  | _ => none }
def FnSmallsWrongFalsely : Prop := fnSmallsRow.holds Try.pinned (OpenSpec.ofChange fnSmallsWrong)

/-- 'laws.FnFilled': WHATEVER THE INPUT: true; the input reads as it did. -/
def fnFilledSpec : ChangeSpec := { name := "fnFilled", fn := fun _ => fun
  | [d1, d2] => { results := [.lit (.bool true)], args := [d1, d2] }
  | _ => none }
def fnFilledRow : OpenClaim := { program := "ytbpgbplepebcjaa", sum := "905f0f0c1b6297e131c305df6582aab8e1f75fca34d6eda9a24712f3f53e597c", func := "loop.example/g01318/laws.FnFilled", spec := "fnFilled", inPlace := ["math.Float64bits", "math.Float64frombits", "math.sqrt", "math.archFloor", "math.archTrunc"], apart := false }
def FnFilledSaid : Prop := fnFilledRow.holds Try.pinned (OpenSpec.ofChange fnFilledSpec)

/-- ITS FALSE NEIGHBOUR: 'it returns false'. Refute it at one input. -/
def fnFilledWrong : ChangeSpec := { name := "fnFilled", fn := fun _ => fun
  | [d1, d2] => { results := [.lit (.bool false)], args := [d1, d2] }
  | _ => none }
def FnFilledWrongFalsely : Prop := fnFilledRow.holds Try.pinned (OpenSpec.ofChange fnFilledWrong)

/-- 'laws.FnSmallWords': WHATEVER THE INPUT: true; the input reads as it did. -/
def fnSmallWordsSpec : ChangeSpec := { name := "fnSmallWords", fn := fun _ => fun
  | [d1, d2] => { results := [.lit (.bool true)], args := [d1, d2] }
  | _ => none }
def fnSmallWordsRow : OpenClaim := { program := "ytbpgbplepebcjaa", sum := "905f0f0c1b6297e131c305df6582aab8e1f75fca34d6eda9a24712f3f53e597c", func := "loop.example/g01318/laws.FnSmallWords", spec := "fnSmallWords", inPlace := ["math.Float64bits", "math.Float64frombits", "math.sqrt", "math.Float32frombits"], unfollowed := true, recurses := true, apart := false }
def FnSmallWordsSaid : Prop := fnSmallWordsRow.holds Try.pinned (OpenSpec.ofChange fnSmallWordsSpec)

/-- ITS FALSE NEIGHBOUR: 'it returns false'. Refute it at one input. -/
def fnSmallWordsWrong : ChangeSpec := { name := "fnSmallWords", fn := fun _ => fun
  | [d1, d2] => { results := [.lit (.bool false)], args := [d1, d2] }
  | _ => none }
def FnSmallWordsWrongFalsely : Prop := fnSmallWordsRow.holds Try.pinned (OpenSpec.ofChange fnSmallWordsWrong)

/-- 'laws.FnCollages': WHATEVER THE INPUT: true; the input reads as it did. -/
def fnCollagesSpec : ChangeSpec := { name := "fnCollages", fn := fun _ => fun
  | [d1, d2] => { results := [.lit (.bool true)], args := [d1, d2] }
  | _ => none }
def fnCollagesRow : OpenClaim := { program := "ytbpgbplepebcjaa", sum := "905f0f0c1b6297e131c305df6582aab8e1f75fca34d6eda9a24712f3f53e597c", func := "loop.example/g01318/laws.FnCollages", spec := "fnCollages", inPlace := ["math.Float64bits", "math.Float64frombits", "math.sqrt", "math.Float32bits"], unfollowed := true, recurses := true, apart := false }
def FnCollagesSaid : Prop := fnCollagesRow.holds Try.pinned (OpenSpec.ofChange fnCollagesSpec)

/-- ITS FALSE NEIGHBOUR: 'it returns false'. Refute it at one input. -/
def fnCollagesWrong : ChangeSpec := { name := "fnCollages", fn := fun _ => fun
  | [d1, d2] => { results := [.lit (.bool false)], args := [d1, d2] }
  | _ => none }
def FnCollagesWrongFalsely : Prop := fnCollagesRow.holds Try.pinned (OpenSpec.ofChange fnCollagesWrong)

/- THE SECOND FORM. 'bulk': how many values and letters a reading holds, each counted each time it is reached (what is shared counts as often as it is met; a slice's spare places count too). A statement '..UptoSaid' is the law's where the arguments, and the package variables that the reading takes, are together of bulk at most 1048576: NARROWER than '..Said'. Prove '..Said' where nothing that the law and all that it calls make is longer than what came in: it says more and counts as full. Else prove '..UptoSaid'. A law counts once. -/
mutual
def uptoBulk {H : Type} : DataW H → Nat
  | .lit (.string bytes) => bytes.length + 1
  | .lit _ => 1
  | .nil => 1
  | .ptr d => uptoBulk d + 1
  | .slice elems spare => uptoBulkAll elems + uptoBulkAll spare + 1
  | .agg parts => uptoBulkAll parts + 1
  | .iface _ d => uptoBulk d + 1
  | .map entries => uptoBulkEntries entries + 1
  | .held _ => 1
def uptoBulkAll {H : Type} : List (DataW H) → Nat
  | [] => 0
  | d :: r => uptoBulk d + uptoBulkAll r
def uptoBulkEntries {H : Type} : List (Lit × DataW H) → Nat
  | [] => 0
  | x :: r => uptoBulkEntry x + uptoBulkEntries r
def uptoBulkEntry {H : Type} : Lit × DataW H → Nat
  | (.string bytes, d) => bytes.length + uptoBulk d + 1
  | (_, d) => uptoBulk d + 1
 end
def uptoSmall : (H : Type) → List (DataW H) → Bool := fun _ ds => decide (uptoBulkAll ds ≤ 1048576)
def OpenSpec.upto (s : _root_.Go.ChangeSpec) : _root_.Go.OpenSpec := { _root_.Go.OpenSpec.ofChange s with cond := some uptoSmall }

/-- 'laws.FnSmalls', WHERE WHAT IT READS IS OF BULK AT MOST 1048576: true; the input reads as it did. -/
def fnSmallsUptoRow : OpenClaim := { program := "ytbpgbplepebcjaa", sum := "905f0f0c1b6297e131c305df6582aab8e1f75fca34d6eda9a24712f3f53e597c", func := "loop.example/g01318/laws.FnSmalls", spec := "fnSmalls", inPlace := ["math.Float64bits", "math.Float64frombits", "math.sqrt"], unfollowed := true, recurses := true, apart := false, narrowed := true }
def FnSmallsUptoSaid : Prop := fnSmallsUptoRow.holds Try.pinned (OpenSpec.upto fnSmallsSpec)

/-- 'laws.FnFilled', WHERE WHAT IT READS IS OF BULK AT MOST 1048576: true; the input reads as it did. -/
def fnFilledUptoRow : OpenClaim := { program := "ytbpgbplepebcjaa", sum := "905f0f0c1b6297e131c305df6582aab8e1f75fca34d6eda9a24712f3f53e597c", func := "loop.example/g01318/laws.FnFilled", spec := "fnFilled", inPlace := ["math.Float64bits", "math.Float64frombits", "math.sqrt", "math.archFloor", "math.archTrunc"], apart := false, narrowed := true }
def FnFilledUptoSaid : Prop := fnFilledUptoRow.holds Try.pinned (OpenSpec.upto fnFilledSpec)

/-- 'laws.FnSmallWords', WHERE WHAT IT READS IS OF BULK AT MOST 1048576: true; the input reads as it did. -/
def fnSmallWordsUptoRow : OpenClaim := { program := "ytbpgbplepebcjaa", sum := "905f0f0c1b6297e131c305df6582aab8e1f75fca34d6eda9a24712f3f53e597c", func := "loop.example/g01318/laws.FnSmallWords", spec := "fnSmallWords", inPlace := ["math.Float64bits", "math.Float64frombits", "math.sqrt", "math.Float32frombits"], unfollowed := true, recurses := true, apart := false, narrowed := true }
def FnSmallWordsUptoSaid : Prop := fnSmallWordsUptoRow.holds Try.pinned (OpenSpec.upto fnSmallWordsSpec)

/-- 'laws.FnCollages', WHERE WHAT IT READS IS OF BULK AT MOST 1048576: true; the input reads as it did. -/
def fnCollagesUptoRow : OpenClaim := { program := "ytbpgbplepebcjaa", sum := "905f0f0c1b6297e131c305df6582aab8e1f75fca34d6eda9a24712f3f53e597c", func := "loop.example/g01318/laws.FnCollages", spec := "fnCollages", inPlace := ["math.Float64bits", "math.Float64frombits", "math.sqrt", "math.Float32bits"], unfollowed := true, recurses := true, apart := false, narrowed := true }
def FnCollagesUptoSaid : Prop := fnCollagesUptoRow.holds Try.pinned (OpenSpec.upto fnCollagesSpec)

end Rows
end Go.Proofs.Ytbpgbplepebcjaa

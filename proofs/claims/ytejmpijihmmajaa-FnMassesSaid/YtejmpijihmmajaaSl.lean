/- Walks: the laws' own functions on lists of integers and of truth values: those that compare, mark, and look whether the marks are held. -/
import Derived.Test.YtejmpijihmmajaaRows
import Derived.Test.YtejmpijihmmajaaMem
import Derived.Test.YtejmpijihmmajaaBlk
import Derived.WalkSpells
import Derived.Handy
import Derived.StillTailTactics
import Derived.Deep.RegionHeld3
import Derived.Deep.QuietTactic
import Derived.BigQuiet
namespace Go.Proofs.Ytejmpijihmmajaa
open Go.RowKit

def iv (n : Int) : Value := .int .i64 n
def bv (b : Bool) : Value := .bool b
def miv (k j : Nat) : Value := .int .i64 ((k + j : Nat) : Int)
def mbv (k j : Nat) : Value := .bool (((k : Int) + (j : Int)) % 3 == 0)




theorem boolInfo : (Try.prog.info? 4).map (fun i => (i.zero, i.size, i.bytes)) = some (some (.bool false), 1, 1) := by kernel_rfl
theorem intInfo : (Try.prog.info? 2).map (fun i => (i.zero, i.size, i.bytes)) = some (some (.int .i64 0), 1, 8) := by kernel_rfl

end Go.Proofs.Ytejmpijihmmajaa

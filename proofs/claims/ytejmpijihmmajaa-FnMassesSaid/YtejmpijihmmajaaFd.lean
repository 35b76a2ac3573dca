/- Walks: the laws' own functions on fields. -/
import Derived.Test.YtejmpijihmmajaaSl
namespace Go.Proofs.Ytejmpijihmmajaa
open Go.RowKit

/-- A field as a value. -/
def fieldV (wd hi : Int) (A : Option Addr) (n c : Nat) : Value := .agg #[.int .i64 wd, .int .i64 hi, .slice A n c]






end Go.Proofs.Ytejmpijihmmajaa

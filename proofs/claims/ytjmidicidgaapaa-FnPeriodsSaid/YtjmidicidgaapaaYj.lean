/- Plain law: how far a number is away from the set, in single-precision bits; a look at all numbers of eighths. -/
import Derived.Test.YtjmidicidgaapaaYa
namespace Go.Proofs.Ytjmidicidgaapaa.Circ
open Go
open Quick
def heartD (x y : Nat) : Option Bool :=
  opg .sub x 1048576000 fun a => opg .add x 1065353216 fun b => opg .mul a a fun p => opg .mul y y fun r => opg .add p r fun q => opg .add q a fun s => opg .mul q s fun t => opg .mul 1048576000 y fun u => opg .mul u y fun v =>
  if le32 t v then some true else opg .mul b b fun m => opg .add m r fun o => some (le32 o 1031798784)
/-- One step of the square. -/
def stepD (p q : Nat) (z : Nat × Nat) : Option (Nat × Nat) :=
  match mulC z.1 z.2 z.1 z.2 with
  | none => none
  | some (m, n) => opg .add m p fun u => opg .add n q fun v => some (u, v)
/-- A single's logarithm. -/
def logN (x : Nat) : Option Nat := wide x fun y => af (logP y) fun v => narrow v some
/-- The orbit and its derivative, until it is out. -/
def bordL (p q : Nat) : Nat → Nat → Nat → Nat → Nat → Option (Nat × Nat × Nat × Nat)
  | 0, a, b, u, v => some (a, b, u, v)
  | f + 1, a, b, u, v => match powC a b with
    | none => none
    | some r => if decide (r % 2147483648 < 2139095040) then
        if le32 r 1082130432 then
          opg .add a a fun x => opg .add b b fun y => match mulC x y u v with
          | none => none
          | some (m, n) => opg .add m 1065353216 fun m => opg .add n 0 fun n => match stepD p q (a, b) with
            | none => none
            | some (c, d) => bordL p q f c d m n
        else some (a, b, u, v)
      else none
/-- The distance. -/
def bordF (a b u v : Nat) : Option Nat :=
  match powC a b with
  | none => none
  | some r => if decide (r % 2147483648 < 2139095040) then
      if le32 r 1082130432 then some 0 else
      af (longC a b) fun l => if decide (0 < l) && decide (l < 2139095040) then
        af (logN l) fun g => opg .mul l g fun m => af (longC u v) fun k => opg .quo m k fun x => if decide (x < 2139095040) then some x else none
      else none
    else none
def bordOk (x y : Nat) : Bool :=
  match bordL x y 40 0 0 0 0 with
  | none => false
  | some (a, b, u, v) => match bordF a b u v, heartD x y with
    | some r, some h => !h || decide (r = 0)
    | _, _ => false
end Go.Proofs.Ytjmidicidgaapaa.Circ

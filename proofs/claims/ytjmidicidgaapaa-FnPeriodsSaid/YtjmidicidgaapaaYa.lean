/- Plain law: steps to roots, in single-precision bits; what a run of steps comes to. -/
import Derived.Test.YtjmidicidgaapaaEj
namespace Go.Proofs.Ytjmidicidgaapaa.Circ
open Go
open Quick

/-- A whole number as a single. -/
def fw : Nat → Nat
  | 1 => 1065353216 | 2 => 1073741824 | 3 => 1077936128 | 4 => 1082130432 | 5 => 1084227584 | 6 => 1086324736 | _ => 0
/-- The roots of unity. -/
def ph (n k : Nat) : Nat × Nat :=
  match n, k with
  | 2, 0 => (1065353216, 0)
  | 2, 1 => (3212836864, 0)
  | 3, 0 => (1065353216, 0)
  | 3, 1 => (3204448256, 1063105495)
  | 3, 2 => (3204448256, 3210589143)
  | 4, 0 => (1065353216, 0)
  | 4, 1 => (0, 1065353216)
  | 4, 2 => (3212836864, 0)
  | 4, 3 => (0, 3212836864)
  | 5, 0 => (1065353216, 0)
  | 5, 1 => (1050556282, 1064532081)
  | 5, 2 => (3209632701, 1058437400)
  | 5, 3 => (3209632701, 3205921048)
  | 5, 4 => (1050556282, 3212015729)
  | 6, 0 => (1065353216, 0)
  | 6, 1 => (1056964608, 1063105495)
  | 6, 2 => (3204448256, 1063105495)
  | 6, 3 => (3212836864, 0)
  | 6, 4 => (3204448256, 3210589143)
  | 6, 5 => (1056964608, 3210589143)
  | _, _ => (0, 0)
/-- The quotient of two complex numbers. -/
def quoC (a b c d : Nat) : Option (Nat × Nat) :=
  wide a fun a => wide b fun b => wide c fun c => wide d fun d =>
  opf .mul a c fun p => opf .mul b (Num.ng64 d) fun q => opf .sub p q fun u => opf .mul a (Num.ng64 d) fun r => opf .mul b c fun s => opf .add r s fun v =>
  opf .mul c c fun g => opf .mul d d fun h => opf .add g h fun e => opf .quo u e fun x => opf .quo v e fun y =>
  narrow x fun x => narrow y fun y => some (x, y)
/-- z, times z so often. -/
def powN (a b : Nat) : Nat → Option (Nat × Nat)
  | 0 => some (a, b)
  | j + 1 => match powN a b j with
    | none => none
    | some (x, y) => mulC x y a b
/-- The numerator and the denominator of a step to a root. -/
def topC (n a b x y : Nat) : Option (Nat × Nat) :=
  match mulC x y a b with
  | none => none
  | some (u, v) => opg .mul u (fw (n - 1)) fun u => opg .mul v (fw (n - 1)) fun v => opg .add u 1065353216 fun u => opg .add v 0 fun v => some (u, v)
def stepN (n a b : Nat) : Option (Nat × Nat) :=
  match powN a b (n - 2) with
  | none => none
  | some (x, y) => match topC n a b x y with
    | none => none
    | some (u, v) => opg .mul x (fw n) fun x => opg .mul y (fw n) fun y => quoC u v x y
/-- Small parts. -/
def small1 (w : Nat) : Bool := decide (w < 4294967296) && decide (w % 2147483648 ≤ 1148846080)
def smallC (a b : Nat) : Bool := small1 a && small1 b
/-- Whether a number lies near to a root: by its parts first. -/
def nearK (n k a b : Nat) : Option Bool :=
  opg .sub a (ph n k).1 fun u => if decide (989855744 ≤ u % 2147483648) then some false else
  opg .sub b (ph n k).2 fun v => if decide (989855744 ≤ v % 2147483648) then some false else
  af (longC u v) fun l => some (le32 l 981668463)
/-- The same, by the length. -/
def nearF (n k a b : Nat) : Option Bool :=
  opg .sub a (ph n k).1 fun u => opg .sub b (ph n k).2 fun v => af (longC u v) fun l => some (le32 l 981668463)
/-- Whether one of the roots lies near: none: it cannot be said. -/
def anyK (n a b : Nat) : Nat → Option Bool
  | 0 => some false
  | j + 1 => match nearK n (n - 1 - j) a b with
    | none => none
    | some true => some true
    | some false => anyK n a b j
def noneF (n a b : Nat) : Nat → Bool
  | 0 => true
  | j + 1 => match nearF n (n - 1 - j) a b with
    | some false => noneF n a b j
    | _ => false
def fin1 (w : Nat) : Bool := decide (w < 4294967296) && decide (w % 2147483648 < 2139095040)
/-- Whether a run of at most so many steps from a number can be followed to its end. -/
def runC (n : Nat) : Nat → Nat → Nat → Bool
  | 0, a, b => if smallC a b then (anyK n a b n).isSome else fin1 a && fin1 b && noneF n a b n
  | f + 1, a, b =>
    if smallC a b then
      match anyK n a b n with
      | none => false
      | some true => true
      | some false =>
        if decide (a % 2147483648 = 0) && decide (b % 2147483648 = 0) then true else
        match stepN n a b with
        | none => false
        | some (x, y) => runC n f x y
    else fin1 a && fin1 b && noneF n a b n
end Go.Proofs.Ytjmidicidgaapaa.Circ

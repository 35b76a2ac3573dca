/- Plain law: roots and numbers that a square does not move, in single-precision bits, and a look at all numbers of eighths. -/
import Derived.Test.YtjmidicidgaapaaCc
import Derived.Test.YtjmidicidgaapaaEa
namespace Go.Proofs.Ytjmidicidgaapaa.Circ
open Go
open Quick

/-- An operation on singles, and what follows. -/
def opg {α : Type} (op : BinOp) (x y : Nat) (k : Nat → Option α) : Option α := (qbits op .f32 x y).bind fun r => fo r k
theorem opg_some {α : Type} {op : BinOp} {x y : Nat} {k : Nat → Option α} {v : α} (h : opg op x y k = some v) : ∃ r, floatBits op .f32 x y = some r ∧ k r = some v := by
  unfold opg at h
  rw [qbits_eq] at h
  cases e : floatBits op .f32 x y with
  | none => rw [e] at h; cases h
  | some r => rw [e] at h; refine ⟨r, rfl, ?_⟩; rw [← h]; exact (fo_eq r k).symm
def lt32 (x y : Nat) : Bool := match qorder .f32 x y with | some .lt => true | _ => false
def le32 (x y : Nat) : Bool := match qorder .f32 x y with | some .lt => true | some .eq => true | _ => false
theorem lt32_eq (x y : Nat) : lt32 x y = (FloatKind.f32.format.order x y == some .lt) := by
  unfold lt32; rw [qorder_eq]; rcases FloatKind.f32.format.order x y with _ | (_ | _ | _) <;> rfl
theorem le32_eq (x y : Nat) : le32 x y = (FloatKind.f32.format.order x y == some .lt || FloatKind.f32.format.order x y == some .eq) := by
  unfold le32; rw [qorder_eq]; rcases FloatKind.f32.format.order x y with _ | (_ | _ | _) <;> rfl
/-- The length of a complex number. -/
def longC (a b : Nat) : Option Nat :=
  wide a fun a => wide b fun b => opf .mul a a fun p => opf .mul b b fun q => opf .add p q fun u => af (qsqrt u) fun s => narrow s some
/-- The root of a number. -/
def rootNum (x : Nat) : Option Nat := wide x fun y => af (qsqrt y) fun s => narrow s some
/-- The root of half of a number. -/
def rootPartC (x : Nat) : Option Nat := opg .mul 1056964608 x fun h => if lt32 h 0 then rootNum 0 else rootNum h
/-- The root of a complex number. -/
def rootC (a b : Nat) : Option (Nat × Nat) :=
  af (longC a b) fun l => opg .add l a fun p => af (rootPartC p) fun u => opg .sub l a fun q => af (rootPartC q) fun v => some (u, if lt32 b 0 then Num.ng32 v else v)
/-- One of the numbers that a square does not move: half of 1 plus or minus d. -/
def restC (op : BinOp) (d1 d2 : Nat) : Option (Nat × Nat) :=
  opg op 1065353216 d1 fun x => opg op 0 d2 fun y => opg .mul x 1056964608 fun u => opg .mul y 1056964608 fun v => some (u, v)
def discC (a b : Nat) : Option (Nat × Nat) :=
  opg .mul a 1082130432 fun x => opg .mul b 1082130432 fun y => opg .sub 1065353216 x fun p => opg .sub 0 y fun q => rootC p q
/-- A finite word whose number is at most 3. -/
def fin3 (w : Nat) : Bool := decide (w < 4294967296) && decide (w % 2147483648 < 2139095040) && le32 w 1077936128 && le32 3225419776 w
/-- Whether a number lies where a square leads it, nearly. -/
def stayC (a b x y : Nat) : Bool :=
  fin3 x && fin3 y && (match mulC x y x y with
    | none => false
    | some (m, n) => match (opg .add m a fun u => opg .add n b fun v => opg .sub u x fun p => opg .sub v y fun q => af (longC p q) fun l => wide l fun w => some (lt w 4562254508917369340 && fin3 u && fin3 v)) with
      | some true => true
      | _ => false)
def restOk (a b : Nat) : Bool :=
  match discC a b with
  | none => false
  | some (d1, d2) => match restC .add d1 d2, restC .sub d1 d2 with
    | some (x, y), some (u, v) => stayC a b x y && stayC a b u v && (match (opg .add x u fun p => opg .add y v fun q => opg .sub p 1065353216 fun p => opg .sub q 0 fun q => af (longC p q) fun l => wide l fun w => some (lt w 4562254508917369340)) with
      | some true => true
      | _ => false)
    | _, _ => false
end Go.Proofs.Ytjmidicidgaapaa.Circ
namespace Go.Proofs.Ytjmidicidgaapaa
open Circ
set_option maxRecDepth 100000 in
theorem rest_a : ∀ x : Nat, x < 11 → ∀ y : Nat, y < 33 → restOk (ew ((x : Int) - 16)) (ew ((y : Int) - 16)) = true := by decide +kernel
set_option maxRecDepth 100000 in
theorem rest_b : ∀ x : Nat, x < 11 → ∀ y : Nat, y < 33 → restOk (ew ((x : Int) - 5)) (ew ((y : Int) - 16)) = true := by decide +kernel
set_option maxRecDepth 100000 in
theorem rest_c : ∀ x : Nat, x < 11 → ∀ y : Nat, y < 33 → restOk (ew ((x : Int) + 6)) (ew ((y : Int) - 16)) = true := by decide +kernel
/-- All numbers of eighths. -/
theorem rest_ok {x y : Int} (hx : x.natAbs ≤ 16) (hy : y.natAbs ≤ 16) : restOk (ew x) (ew y) = true := by
  obtain ⟨b, eb⟩ : ∃ b : Nat, (b : Int) - 16 = y := ⟨(y + 16).toNat, by omega⟩
  rcases (by omega : x ≤ -6 ∨ (-5 ≤ x ∧ x ≤ 5) ∨ 6 ≤ x) with h | h | h
  · obtain ⟨a, ea⟩ : ∃ a : Nat, (a : Int) - 16 = x := ⟨(x + 16).toNat, by omega⟩
    have := rest_a a (by omega) b (by omega)
    rwa [ea, eb] at this
  · obtain ⟨a, ea⟩ : ∃ a : Nat, (a : Int) - 5 = x := ⟨(x + 5).toNat, by omega⟩
    have := rest_b a (by omega) b (by omega)
    rwa [ea, eb] at this
  · obtain ⟨a, ea⟩ : ∃ a : Nat, (a : Int) + 6 = x := ⟨(x - 6).toNat, by omega⟩
    have := rest_c a (by omega) b (by omega)
    rwa [ea, eb] at this
end Go.Proofs.Ytjmidicidgaapaa

/- Walk: DropOn by the reference. Conditions: as each says. -/
import Derived.Test.YtoibgpmpngccjaaHm
import Derived.StillTailTactics
namespace Go.Proofs.Ytoibgpmpngccjaa
open Go.RowKit

/-- A sheet of its own memory, a number and a truth value. -/
def SrRes (rw rh : Int) (C : List Nat) (x : Int) (ok : Bool) (w : World) (e : Ending) (w' : World) : Prop :=
  ∃ A c, e = .returned (.tuple #[sheetV rw rh A C.length c, .int .i64 x, .bool ok]) ∧ w'.ownsRow w.heap.size 30 1 (.slice A C.length c) C.length (C.map fv) ∧ Below w.heap.size w w'
theorem srRes_no {w w' : World} (hb : Below w.heap.size w w') : SrRes 0 0 [] 0 false w (.returned (.tuple #[.agg #[.int .i64 0, .int .i64 0, .slice none 0 0], .int .i64 0, .bool false])) w' :=
  ⟨none, 0, rfl, World.ownsRow_nil _ _ _ _, hb⟩
/-- What a drop gives. -/
def DrRes (nx : List Nat → Nat → Option Nat) (W H tk lv st a : Nat) (xs : List Nat) (w : World) (e : Ending) (w' : World) : Prop :=
  ∃ Hf m, Run nx tk lv st xs a 0 Hf m ∧ ((Hf.all finW = true ∧ SrRes W H Hf (m : Nat) true w e w') ∨ (Hf.all finW = false ∧ SrRes 0 0 [] 0 false w e w'))
theorem okSheet_len {W H : Nat} {xs : List Nat} (h1 : 1 ≤ W) (h2 : W ≤ 17) (h3 : 1 ≤ H) (h4 : H ≤ 17) (hl : xs.length = W * H) : okSheet (W : Int) (H : Int) xs = xs.all finW := by
  unfold okSheet
  rw [inB_iff.2 ⟨by omega, by omega⟩, inB_iff.2 ⟨by omega, by omega⟩, hl]
  simp
theorem place_lt {W H x y : Nat} (hx : x < W) (hy : y < H) : y * W + x < W * H := by
  have := Nat.mul_le_mul_right W (show y + 1 ≤ H from hy)
  rw [Nat.add_mul, Nat.one_mul, Nat.mul_comm H W] at this
  omega
end Go.Proofs.Ytoibgpmpngccjaa

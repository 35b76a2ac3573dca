/- Walks: the laws' own functions on sheets. (printed by gen_sheet.py) Conditions: as each says. -/
import Derived.Test.YtoibgpmpngccjaaFy
import Derived.Test.YtoibgpmpngccjaaApp
import Derived.Deep.RegionHeld3
namespace Go.Proofs.Ytoibgpmpngccjaa
open Go.RowKit
attribute [local go_sem] run_store_fl

/-- A sheet as a value. -/
def sheetV (wd hi : Int) (A : Option Addr) (n c : Nat) : Value := .agg #[.int .i64 wd, .int .i64 hi, .slice A n c]
def mfv (k j : Nat) : Value := .float .f32 (floatOfInt .f32 ((k : Int) + (j : Int)))
theorem fltInfo : (Try.prog.info? 30).map (fun i => (i.zero, i.size, i.bytes)) = some (some (.float .f32 0), 1, 4) := by kernel_rfl
theorem order_write (s : Bool) (m : Nat) (e : Int) : Ieee.single.order (Ieee.single.nearest s m e) (Ieee.single.nearest s m e) = some .eq := by
  have hsw : Ieee.single.signWeight = 2147483648 := by decide
  have hbin : Ieee.single.binade = 8388608 := by decide
  have hinf : Ieee.single.infRung = 2139095040 := by decide
  have key : ∃ q, q ≤ 2139095040 ∧ Ieee.single.nearest s m e = Ieee.single.word s q := by
    unfold Ieee.Format.nearest
    split
    · exact ⟨0, by decide, rfl⟩
    · refine ⟨_, ?_, rfl⟩
      rw [hinf]
      exact Nat.min_le_right _ _
  obtain ⟨q, hq, hw⟩ := key
  rw [hw]
  rcases order_self Ieee.single (Ieee.single.word s q) with h | h
  · exact h
  · exfalso
    have hr : Ieee.single.word s q % 2147483648 = q := by
      unfold Ieee.Format.word
      rw [hsw]
      split <;> omega
    have hd : (∃ a b c, Ieee.single.read (Ieee.single.word s q) = .number a b c) ∨ ∃ a, Ieee.single.read (Ieee.single.word s q) = .infinity a := by
      unfold Ieee.Format.read
      rw [hsw, hbin, hinf, hr]
      simp only
      by_cases h1 : q < 8388608
      · rw [if_pos h1]
        exact .inl ⟨_, _, _, rfl⟩
      · rw [if_neg h1]
        by_cases h2 : q < 2139095040
        · rw [if_pos h2]
          exact .inl ⟨_, _, _, rfl⟩
        · rw [if_neg h2, if_pos (by omega)]
          exact .inr ⟨_, rfl⟩
    unfold Ieee.Format.order at h
    rcases hd with ⟨a, b, c, e⟩ | ⟨a, e⟩ <;> rw [e] at h <;> simp [Ieee.Datum.order] at h
theorem order_int (n : Int) : (FloatKind.f32.format.order (floatOfInt .f32 n) (floatOfInt .f32 n) != some Ordering.eq) = false := by
  have : FloatKind.f32.format.order (floatOfInt .f32 n) (floatOfInt .f32 n) = some .eq := order_write _ _ _
  rw [this]
  rfl





end Go.Proofs.Ytoibgpmpngccjaa

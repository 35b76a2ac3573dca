/- Walks: the laws' own functions on sheets. (printed by gen_sheet.py) Conditions: as each says. -/
import Derived.Test.YtbkacmklgkgamaaFy
import Derived.Test.YtbkacmklgkgamaaApp
import Derived.Deep.RegionHeld3
namespace Go.Proofs.Ytbkacmklgkgamaa
open Go.RowKit
attribute [local go_sem] run_store_fl

/-- A sheet as a value. -/
def sheetV (wd hi : Int) (A : Option Addr) (n c : Nat) : Value := .agg #[.int .i64 wd, .int .i64 hi, .slice A n c]
def mfv (k j : Nat) : Value := .float .f32 (floatOfInt .f32 ((k : Int) + (j : Int)))
theorem fltInfo : (Try.prog.info? 50).map (fun i => (i.zero, i.size, i.bytes)) = some (some (.float .f32 0), 1, 4) := by kernel_rfl
theorem order_write (s : Bool) (m : Nat) (e : Int) : Ieee.single.order (Ieee.single.nearest s m e) (Ieee.single.nearest s m e) = some .eq := by
  have hsw : Ieee.single.signWeight = 2147483648 := by decide
  have hbin : Ieee.single.binade = 8388608 := by decide
  have hinf : Ieee.single.infRung = 2139095040 := by decide
  have key : ∃ q, q ≤ 2139095040 ∧ Ieee.single.nearest s m e = Ieee.single.word s q := by
    unfold Ieee.Format.nearest
    split
    · exact ⟨0, by decide, rfl⟩
    · refine ⟨_, ?_, rfl⟩
      rw [hinf]
      exact Nat.min_le_right _ _
  obtain ⟨q, hq, hw⟩ := key
  rw [hw]
  rcases order_self Ieee.single (Ieee.single.word s q) with h | h
  · exact h
  · exfalso
    have hr : Ieee.single.word s q % 2147483648 = q := by
      unfold Ieee.Format.word
      rw [hsw]
      split <;> omega
    have hd : (∃ a b c, Ieee.single.read (Ieee.single.word s q) = .number a b c) ∨ ∃ a, Ieee.single.read (Ieee.single.word s q) = .infinity a := by
      unfold Ieee.Format.read
      rw [hsw, hbin, hinf, hr]
      simp only
      by_cases h1 : q < 8388608
      · rw [if_pos h1]
        exact .inl ⟨_, _, _, rfl⟩
      · rw [if_neg h1]
        by_cases h2 : q < 2139095040
        · rw [if_pos h2]
          exact .inl ⟨_, _, _, rfl⟩
        · rw [if_neg h2, if_pos (by omega)]
          exact .inr ⟨_, rfl⟩
    unfold Ieee.Format.order at h
    rcases hd with ⟨a, b, c, e⟩ | ⟨a, e⟩ <;> rw [e] at h <;> simp [Ieee.Datum.order] at h
theorem order_int (n : Int) : (FloatKind.f32.format.order (floatOfInt .f32 n) (floatOfInt .f32 n) != some Ordering.eq) = false := by
  have : FloatKind.f32.format.order (floatOfInt .f32 n) (floatOfInt .f32 n) = some .eq := order_write _ _ _
  rw [this]
  rfl

set_option maxRecDepth 100000 in
set_option maxHeartbeats 400000 in
theorem toFloat32S_any (A : Option Addr) (n c : Nat) (xs : List Nat) (w : World) (hn : n ≤ 1048576) (hA : Rd w w.heap.size 1 A n (xs.map fv)) :
    Calls Try.prog 22 #[.slice A n c] w fun e w' => ∃ A', e = .returned (.slice A' n n) ∧ w'.ownsRow w.heap.size 50 1 (.slice A' n n) n (xs.map fv) ∧ Below w.heap.size w w' := by
  obtain ⟨i0, hi, hz0, hz1, hz2⟩ := info_parts fltInfo
  have hl : xs.length = n := by have := hA.len; simpa using this
  go_enter Try.func22, Try.ntmps22
  go_wp2_with (at_make; refine wpList_make_full _ rfl _ _ _ rfl w.heap.size 50 i0 (.float .f32 0) 1 Try.underlying45 hi hz0 hz1 .i64 .i64 n n n rfl rfl rfl rfl (by rw [hz2]; omega) (by unfold maxLen; omega) (Nat.le_refl _) ?_; intro w1 ho1 hg1)
  have hml : (madeCells (Value.float .f32 0).cells (n * 1)).toList.length = n := by have := ho1.1; omega
  generalize (madeCells (Value.float .f32 0).cells (n * 1)).toList = zs at *
  go_loopw [4] (fun i wr => ∃ j : Nat, j ≤ n ∧ i = .int .i64 j ∧ wr.ownsRow w.heap.size 50 1 (.slice (some ⟨w.heap.size, 0, none⟩) n n) n (filled (fun j => fv (xs.getD j 0)) j zs) ∧ Below w.heap.size w wr) (fun i _ => n - (intOf i).toNat)
  case atStart => exact ⟨0, Nat.zero_le _, rfl, by simpa [filled_zero] using ho1, below_of_grown hg1 (Nat.le_refl _) (by simp)⟩
  case round =>
    obtain ⟨j, hj, rfl, ho, hb⟩ := hrel
    by_cases hlt : j < n
    · obtain ⟨b, off, rfl, hbb, hc⟩ := hA.2 (by omega)
      have hkl : j < xs.length := by omega
      have ex : (xs.map fv)[j]? = some (.float .f32 (xs.getD j 0)) := by rw [List.getElem?_map, List.getElem?_eq_getElem hkl, List.getD_eq_getElem?_getD, List.getElem?_eq_getElem hkl]; rfl
      have c1 : wr.cell? ⟨b, off + j, none⟩ = some (.float .f32 (xs.getD j 0)) := (hb.cell hbb).trans (hc _ _ ex)
      obtain ⟨ho2, hg2⟩ := ho.stored j (fv (xs.getD j 0))
      rw [filled_set _ (by omega) _ rfl] at ho2
      have f1 : j < (filled (fun j => fv (xs.getD j 0)) j zs).length := by rw [filled_len _ (by omega)]; omega
      have cA : wr.cell? ⟨w.heap.size, j, none⟩ = some (filled (fun j => fv (xs.getD j 0)) j zs)[j] := by rw [ho.cellAt _ (by omega), List.getElem?_eq_getElem f1]
      have fA : wr.frozen? ⟨w.heap.size, j, none⟩ = false := ho.frozenAt _
      clear hc ex
      generalize xs.getD j 0 = p at *
      have HO := Lib.hid ho2
      have HG := Lib.hid (hb.grown hg2 hb.size (by simp))
      clear ho2 hg2 ho
      go_wp2
      go_roundw
      case rel => exact ⟨j + 1, by omega, by go_num, HO.out, HG.out⟩
      case measure => simp [intOf]; omega
    · obtain rfl : j = n := by omega
      go_wp2
      go_ret
      refine ⟨_, rfl, ?_, hb⟩
      have e : filled (fun j => fv (xs.getD j 0)) j zs = xs.map fv := by
        have h := filled_all (fun j => fv (xs.getD j 0)) zs
        rw [hml] at h
        rw [h]
        refine List.ext_getElem (by simp; omega) (fun i h1 h2 => ?_)
        simp at h1 h2
        simp [List.getD_eq_getElem?_getD, List.getElem?_eq_getElem h2]
      rwa [e] at ho




end Go.Proofs.Ytbkacmklgkgamaa

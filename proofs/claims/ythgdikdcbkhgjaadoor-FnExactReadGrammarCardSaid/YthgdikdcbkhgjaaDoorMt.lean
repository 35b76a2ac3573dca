/- Walk: what the laws' markText gives: a name of a number, by a plain function of lists. Condition: the number is above 0 and below 2 to the power of 31. -/
import Derived.Test.YthgdikdcbkhgjaaDoorRows
import Derived.Test.YthgdikdcbkhgjaaDoorMem
import Derived.WalkSpells
import Derived.Handy
namespace Go.Proofs.YthgdikdcbkhgjaaDoor
open Go.RowKit

def mdig : Nat → Nat → List UInt8 → List UInt8
  | 0, _, out => out
  | f + 1, k, out => if k = 0 then out else mdig f (k / 10) (UInt8.ofNat (48 + k % 10) :: out)
theorem mdig_fuel : ∀ (f g k : Nat) (out : List UInt8), k ≤ f → k ≤ g → mdig f k out = mdig g k out
  | 0, 0, _, _, _, _ => rfl
  | 0, g + 1, k, out, hf, _ => by
    have : k = 0 := by omega
    subst this; simp [mdig]
  | f + 1, 0, k, out, _, hg => by
    have : k = 0 := by omega
    subst this; simp [mdig]
  | f + 1, g + 1, k, out, hf, hg => by
    unfold mdig
    split
    · rfl
    · exact mdig_fuel f g _ _ (by omega) (by omega)
theorem mdig_step (k : Nat) (out : List UInt8) (hk : 0 < k) : mdig k k out = mdig (k / 10) (k / 10) (UInt8.ofNat (48 + k % 10) :: out) := by
  obtain ⟨f, rfl⟩ : ∃ f, k = f + 1 := ⟨k - 1, by omega⟩
  conv => lhs; unfold mdig
  rw [if_neg (by omega)]
  exact mdig_fuel _ _ _ _ (by omega) (by omega)
/-- The name of k. -/
def mt (k : Nat) : ByteArray := ⟨(109 :: mdig k k []).toArray⟩

theorem conv_one (W : World) (n : Int) :
    (convert 56 9 (.slice (some ⟨W.heap.size, 0, none⟩) 1 1)).run Tryd.prog (W.alloc (.cells #[.int .u8 n] 5)) = Result.ok (.string ⟨#[UInt8.ofNat n.toNat]⟩) (W.alloc (.cells #[.int .u8 n] 5)) := by
  have h := run_convert_bytes_arg (P := Tryd.prog) (W.alloc (.cells #[.int .u8 n] 5)) 56 5 Tryd.underlying56 Tryd.underlying5 W.heap.size 0 1 1 [n] rfl (fun i hi => by
    have : i = 0 := by omega
    subst this; simp) 9 Tryd.underlying9
  rw [h]; rfl

set_option maxRecDepth 100000 in
set_option maxHeartbeats 400000 in
theorem markText_any (k : Nat) (w : World) (h0 : 0 < k) (hk : k < 2147483648) :
    Calls Tryd.prog 42 #[.int .i64 k] w fun e w' => e = .returned (.string (mt k)) ∧ Below w.heap.size w w' := by
  have hd : decide ((k : Int) ≤ 0) = false := by simp; omega
  have hcv := conv_one
  go_enter Tryd.func42, Tryd.ntmps42
  go_wp2
  go_loopw [0, 3] (fun i s wr => ∃ (j : Nat) (out : List UInt8), i = .int .i64 j ∧ s = .string ⟨out.toArray⟩ ∧ out.length + j ≤ k ∧ Hid (mdig j j out = mdig k k []) ∧ Below w.heap.size w wr) (fun i _ _ => (intOf i).toNat)
  case atStart => exact ⟨k, [], rfl, rfl, by simp, rfl, Below.refl _ _⟩
  case round =>
    obtain ⟨j, out, rfl, rfl, hj, H, hb⟩ := hrel
    have hsz := hb.size
    by_cases hlt : 0 < j
    · go_wp2
      go_roundw
      case rel =>
        refine ⟨j / 10, UInt8.ofNat (48 + j % 10) :: out, by go_num, ?_, by simp; omega, ?_, by go_grown⟩
        · simp [UInt8.ofNat_add]; rfl
        · exact (mdig_step j out hlt).symm.trans H.out
      case measure => simp [intOf]; omega
    · go_wp2
      go_ret
      obtain rfl : j = 0 := by omega
      refine ⟨?_, hb⟩
      have h := H.out
      simp only [mt, ← h, mdig]
      rfl
theorem markText_int (a : Int) (w : World) (h0 : 0 < a) (hk : a < 2147483648) :
    Calls Tryd.prog 42 #[.int .i64 a] w fun e w' => e = .returned (.string (mt a.toNat)) ∧ Below w.heap.size w w' := by
  have h := markText_any a.toNat w (by omega) (by omega)
  rwa [Int.toNat_of_nonneg (by omega)] at h
end Go.Proofs.YthgdikdcbkhgjaaDoor

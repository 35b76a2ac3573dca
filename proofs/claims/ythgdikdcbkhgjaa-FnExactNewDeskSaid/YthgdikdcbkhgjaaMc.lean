/- Walks: marks in lists of complex numbers, for small marks (below 16), and those that look whether they are held. -/
import Derived.Test.YthgdikdcbkhgjaaFe
import Derived.Test.YthgdikdcbkhgjaaMk
import Derived.Test.YthgdikdcbkhgjaaBlk
namespace Go.Proofs.Ythgdikdcbkhgjaa
open Go.RowKit
attribute [local go_sem] run_store_fl run_store_cx

/-- The 32 bits of a small number. -/
def fb (k : Nat) : Nat := (floatToFloatBits .f64 (floatOfInt .f64 k) .f32).getD 0
theorem fb_some : ∀ k : Nat, k < 16 → floatToFloatBits .f64 (floatOfInt .f64 k) .f32 = some (fb k) := by decide
theorem fb_eq : ∀ k : Nat, k < 16 → FloatKind.f32.format.order (fb k) (fb k) = some .eq := by decide
def cmk (k j : Nat) : Value := .complex .f32 (fb (k + j)) 1065353216
theorem conv_mk (k : Nat) (hk : k < 16) : ∀ w : World, (convert 64 22 (.complex .f64 (floatOfInt .f64 k) 4607182418800017408)).run Try.prog w = .ok (.complex .f32 (fb k) 1065353216) w :=
  fun w => run_convert_complex w 64 22 .f64 .f32 _ _ _ _ (by kernel_rfl) Try.underlying22 (by
    unfold cConvBits
    rw [fb_some k hk, show floatToFloatBits .f64 4607182418800017408 .f32 = some 1065353216 from by decide]
    rfl)

set_option maxRecDepth 100000 in
set_option maxHeartbeats 800000 in
theorem markComplex64S_any (A : Option Addr) (n c k base : Nat) (xs : List Value) (w : World) (hk : k + n ≤ 16)
    (hown : w.ownsRow base 22 1 (.slice A n c) n xs) :
    Calls Try.prog 21 #[.slice A n c, .int .i64 k] w fun e w' => e = .returned (.int .i64 ((k + n : Nat) : Int)) ∧
      w'.ownsRow base 22 1 (.slice A n c) n ((List.range n).map (cmk k)) ∧ w.grownBy w' (Value.slice A n c).ownBlock := by
  have hlen : xs.length = n := by have := hown.1; omega
  go_enter Try.func21, Try.ntmps21
  go_wp2
  go_loopw [1, 5] (fun kv i wr => ∃ j : Nat, j ≤ n ∧ i = .int .i64 j ∧ kv = .int .i64 ((k + j : Nat) : Int) ∧ wr.ownsRow base 22 1 (.slice A n c) n (filled (cmk k) j xs) ∧ w.grownBy wr (Value.slice A n c).ownBlock) (fun _ i _ => n - (intOf i).toNat)
  case atStart => exact ⟨0, Nat.zero_le _, rfl, by simp, by simpa [filled_zero] using hown, World.grownBy.refl _ _⟩
  case round =>
    obtain ⟨j, hj, rfl, rfl, ho, hg⟩ := hrel
    by_cases hlt : j < n
    · obtain ⟨g, cap, hv, _, hgl⟩ := ho.form (by omega)
      obtain ⟨rfl, rfl⟩ : A = some ⟨g, 0, none⟩ ∧ c = cap := by injection hv with h1 _ h3; exact ⟨h1, h3⟩
      have f1 : j < (filled (cmk k) j xs).length := by rw [filled_len _ (by omega)]; omega
      have cA : wr.cell? ⟨g, j, none⟩ = some (filled (cmk k) j xs)[j] := by rw [ho.cellAt _ (by omega), List.getElem?_eq_getElem f1]
      have fA : wr.frozen? ⟨g, j, none⟩ = false := ho.frozenAt _
      have hcv := conv_mk (k + j) (by omega)
      rw [Int.natCast_add] at hcv
      obtain ⟨ho1, hg1⟩ := ho.stored j (cmk k j)
      rw [filled_set _ (by omega) _ rfl] at ho1
      go_wp2
      go_roundw
      case rel => exact ⟨j + 1, by omega, by go_num, by simp [Int.add_assoc], ho1, grown_trans' hg hg1⟩
      case measure => simp [intOf]; omega
    · obtain rfl : j = n := by omega
      go_wp2
      go_ret
      refine ⟨by simp, ?_, hg⟩
      have := filled_all (cmk k) xs
      rw [hlen] at this
      rwa [this] at ho

set_option maxRecDepth 100000 in
set_option maxHeartbeats 800000 in
theorem heldComplex64S_any (A : Option Addr) (n c k : Nat) (w : World) (hk : k + n ≤ 16)
    (hA : Rd w w.heap.size 1 A n ((List.range n).map (cmk k))) :
    Calls Try.prog 23 #[.slice A n c, .int .i64 k] w fun e w' => e = .returned (.int .i64 ((k + n : Nat) : Int)) ∧ w' = w := by
  go_enter Try.func23, Try.ntmps23
  go_wp2
  go_loop [1, 5] (fun kv i => ∃ j : Nat, j ≤ n ∧ i = .int .i64 j ∧ kv = .int .i64 ((k + j : Nat) : Int)) (fun _ i => n - (intOf i).toNat)
  case atStart => exact ⟨0, Nat.zero_le _, rfl, by simp⟩
  case round =>
    obtain ⟨j, hj, rfl, rfl⟩ := hrel
    by_cases hlt : j < n
    · obtain ⟨b, off, rfl, hbb, hc⟩ := hA.2 (by omega)
      have c1 : w.cell? ⟨b, off + j, none⟩ = some (.complex .f32 (fb (k + j)) 1065353216) := hc _ _ (range_map_get _ (by omega))
      have hcv := conv_mk (k + j) (by omega)
      rw [Int.natCast_add] at hcv
      have e1 : (FloatKind.f32.format.order (fb (k + j)) (fb (k + j)) == some Ordering.eq) = true := by rw [fb_eq _ (by omega)]; rfl
      have e2 : (FloatKind.f32.format.order 1065353216 1065353216 == some Ordering.eq) = true := by decide
      clear hc
      go_wp2
      go_round
      case rel => exact ⟨j + 1, by omega, by go_num, by simp [Int.add_assoc]⟩
      case measure => simp [intOf]; omega
    · obtain rfl : j = n := by omega
      go_wp2
      go_ret
      exact ⟨by simp, rfl⟩
end Go.Proofs.Ythgdikdcbkhgjaa

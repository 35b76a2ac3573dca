/- Walk: the mean of numbers of a grid. Conditions: at most 20 numbers. -/
import Derived.Test.YtbpgbplepebcjaaKgg
import Derived.Test.YtbpgbplepebcjaaKge
namespace Go.Proofs.Ytbpgbplepebcjaa
open Go.RowKit
open Num Quick
attribute [local go_sem] run_store_fl run_store_cx

/-- The sum of the first n numbers. -/
def sumR (f : Nat → Rat) : Nat → Rat
  | 0 => 0
  | n + 1 => sumR f n + f n
theorem sumR_in {f : Nat → Rat} {C : Rat} (hC : 0 ≤ C) : ∀ {n : Nat}, (∀ i < n, InR (f i) C) → InR (sumR f n) ((((n : Nat) : Int) : Rat) * C)
  | 0, _ => by unfold sumR InR; have e : (((0 : Nat) : Int) : Rat) = 0 := rfl; rw [e]; constructor <;> grind
  | n + 1, h => by
    have h1 := sumR_in hC (f := f) (n := n) (fun i hi => h i (by omega))
    have h2 := h n (by omega)
    have e : (((n + 1 : Nat) : Int) : Rat) = (((n : Nat) : Int) : Rat) + 1 := by rw [show ((n + 1 : Nat) : Int) = (n : Int) + 1 from by simp, Rat.intCast_add]; rfl
    show InR (sumR f n + f n) _
    rw [e]
    have d : ((((n : Nat) : Int) : Rat) + 1) * C = (((n : Nat) : Int) : Rat) * C + C := by grind
    rw [d]
    clear h e d
    generalize sumR f n = x at *
    unfold InR at *
    constructor <;> grind
theorem count_pos {n : Nat} (hn : 1 ≤ n) : (0 : Rat) < (((n : Nat) : Int) : Rat) := Rat.intCast_lt_intCast.2 (show (0 : Int) < (n : Int) by omega)
theorem mean_in {f : Nat → Rat} {C : Rat} {n : Nat} (hn : 1 ≤ n) (hC : 0 ≤ C) (h : ∀ i < n, InR (f i) C) : InR (sumR f n / (((n : Nat) : Int) : Rat)) C := by
  have h1 := sumR_in hC h
  have hp := count_pos hn
  have e : sumR f n / (((n : Nat) : Int) : Rat) * (((n : Nat) : Int) : Rat) = sumR f n := by grind
  unfold InR at *
  constructor
  · exact rat_cancel hp (by rw [e]; grind)
  · exact rat_cancel hp (by rw [e]; grind)
theorem rIntI (n : Int) : ∀ w : World, (convert 3 27 (.int .i64 n)).run Try.prog w = .ok (.float .f32 (floatOfInt .f32 n)) w := fun w => run_convert_int_float w _ _ _ _ _ (by rw [Try.underlying3]; rfl) Try.underlying27
def fst_ (P : List (Nat × Nat)) (j : Nat) : Rat := Num.fv .f32 (P.getD j (0, 0)).1
def snd_ (P : List (Nat × Nat)) (j : Nat) : Rat := Num.fv .f32 (P.getD j (0, 0)).2
theorem gf_zero (k : Nat) : GF k 0 0 := by
  have : Gr k 0 (Num.fv .f32 0) := ⟨0, by rw [c0.2]; rw [Rat.intCast_zero]; grind, by omega⟩
  exact ⟨c0.1, by decide, this⟩
set_option maxRecDepth 100000 in
set_option maxHeartbeats 1000000 in
theorem mean_c {k : Nat} {B : Int} (P : List (Nat × Nat)) (A : Option Addr) (n c : Nat) (w : World) (hl : P.length = n) (hn : 1 ≤ n) (hn2 : n ≤ 20) (hB0 : 0 ≤ B) (hB : 20 * B ≤ 1000 * 2 ^ k) (hB2 : 20 * B ≤ 16777216) (hk : k ≤ 149) (hP : ∀ p ∈ P, GF k B p.1 ∧ GF k B p.2) (hA : Rd w w.heap.size 1 A n (P.map cxv)) :
    Calls Try.prog 83 #[.slice A n c] w fun e w' => ∃ a b, e = .returned (.complex .f32 a b) ∧ w' = w ∧ FR .f32 (sumR (fst_ P) n / (((n : Nat) : Int) : Rat)) a ∧ FR .f32 (sumR (snd_ P) n / (((n : Nat) : Int) : Rat)) b := by
  have HA := Lib.hid hA
  have HL := Lib.hid hl
  have HP := Lib.hid hP
  have G0 := Lib.hid (gf_zero k)
  have HB := Lib.hid hB
  have HB2 := Lib.hid hB2
  clear hA hl hP hB hB2
  go_enter Try.func83, Try.ntmps83
  go_wp2
  go_loop [3, 9] (fun ss si => ∃ i a b : Nat, i ≤ n ∧ si = .int .i64 (i : Int) ∧ ss = .complex .f32 a b ∧ Hid (GF k ((i : Int) * B) a) ∧ Hid (GF k ((i : Int) * B) b) ∧ Hid (Num.fv .f32 a = sumR (fst_ P) i) ∧ Hid (Num.fv .f32 b = sumR (snd_ P) i)) (fun _ i => n - (intOf i).toNat)
  case atStart => exact ⟨0, 0, 0, Nat.zero_le _, rfl, rfl, Lib.hid (by rw [show ((0 : Nat) : Int) * B = 0 by simp]; exact G0.out), Lib.hid (by rw [show ((0 : Nat) : Int) * B = 0 by simp]; exact G0.out), Lib.hid c0.2, Lib.hid c0.2⟩
  case round =>
    obtain ⟨i, a, b, hi, rfl, rfl, WA, WB, SA, SB⟩ := hrel
    by_cases hlt : i < n
    · obtain ⟨bl, off, rfl, hbb, hc⟩ := HA.out.2 (by omega)
      have cP := hc i _ (cxv_at HL.out hlt)
      have hp := HP.out _ (pl_mem HL.out hlt)
      have hiB : (i : Int) * B + B ≤ 20 * B := by
        have h20 : (i : Int) + 1 ≤ 20 := by omega
        have := Int.mul_le_mul_of_nonneg_right h20 hB0
        rwa [Int.add_mul, Int.one_mul] at this
      obtain ⟨s, t, AC, gs, gt, vs, vt⟩ := add_exact WA.out WB.out hp.1 hp.2 (by have := HB2.out; omega) hk (Int.le_trans hiB HB.out)
      have e1 : ((i + 1 : Nat) : Int) * B = (i : Int) * B + B := by
        rw [show ((i + 1 : Nat) : Int) = (i : Int) + 1 from by simp, Int.add_mul, Int.one_mul]
      have GS : Hid (GF k (((i + 1 : Nat) : Int) * B) s) := by rw [e1]; exact Lib.hid gs
      have GT : Hid (GF k (((i + 1 : Nat) : Int) * B) t) := by rw [e1]; exact Lib.hid gt
      have VS : Hid (Num.fv .f32 s = sumR (fst_ P) (i + 1)) := by rw [vs, SA.out]; exact Lib.hid rfl
      have VT : Hid (Num.fv .f32 t = sumR (snd_ P) (i + 1)) := by rw [vt, SB.out]; exact Lib.hid rfl
      have ACH := Lib.hid AC
      have hiI : (i : Int) < (n : Int) := by omega
      clear AC gs gt vs vt WA WB SA SB hc e1 hiB hp
      generalize P.getD i (0, 0) = p at *
      obtain ⟨p1, p2⟩ := p
      simp only at cP ACH
      go_wp2_with (go_at_call 50; refine (ACH.out _).mono ?_; rintro e w5 ⟨rfl, hw5⟩; obtain rfl := hw5.symm)
      go_round
      case rel => exact ⟨i + 1, s, t, by omega, by go_num, rfl, GS, GT, VS, VT⟩
      case measure => simp [intOf]; omega
    · obtain rfl : i = n := by omega
      obtain ⟨f1, f2, _⟩ := fint .f32 (i : Int) (by omega)
      have hp := count_pos hn
      have hiB : (i : Int) * B ≤ 20 * B := Int.mul_le_mul_of_nonneg_right (by omega) hB0
      have ba := WA.out.low (Int.le_trans hiB HB.out)
      have bb := WB.out.low (Int.le_trans hiB HB.out)
      have h1 : (1 : Rat) ≤ (((i : Nat) : Int) : Rat) := Rat.intCast_le_intCast.2 (show (1 : Int) ≤ (i : Int) by omega)
      have bnd : ∀ v : Rat, InR v 1000 → v / (((i : Nat) : Int) : Rat) ≤ top ∧ -top ≤ v / (((i : Nat) : Int) : Rat) := by
        intro v hv
        have e : v / (((i : Nat) : Int) : Rat) * (((i : Nat) : Int) : Rat) = v := by grind
        have t0 : (1000 : Rat) ≤ top := by decide +kernel
        have tt : top ≤ top * (((i : Nat) : Int) : Rat) := by
          have := Rat.mul_nonneg (show (0 : Rat) ≤ top by decide +kernel) (show 0 ≤ (((i : Nat) : Int) : Rat) - 1 by grind)
          grind
        unfold InR at hv
        exact ⟨rat_cancel hp (by rw [e]; grind), rat_cancel hp (by rw [e]; grind)⟩
      obtain ⟨q, q1, q2⟩ := fdiv WA.out.fin f1 (by rw [f2]; grind) (by rw [f2]; exact (bnd _ ba).1) (by rw [f2]; exact (bnd _ ba).2)
      obtain ⟨r, r1, r2⟩ := fdiv WB.out.fin f1 (by rw [f2]; grind) (by rw [f2]; exact (bnd _ bb).1) (by rw [f2]; exact (bnd _ bb).2)
      rw [f2, SA.out] at q2
      rw [f2, SB.out] at r2
      have Q1 := r32 q1
      have R1 := r32 r1
      have QI := rIntI (i : Int)
      have Q2 := Lib.hid q2
      have R2 := Lib.hid r2
      clear q1 r1 q2 r2 bnd ba bb hp h1 hiB f1 f2
      generalize floatOfInt .f32 (i : Int) = fk at *
      go_wp2
      go_ret
      exact ⟨q, r, rfl, rfl, Q2.out, R2.out⟩
end Go.Proofs.Ytbpgbplepebcjaa

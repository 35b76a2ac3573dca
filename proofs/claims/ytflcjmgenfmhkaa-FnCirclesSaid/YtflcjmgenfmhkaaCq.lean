/- Plain law: what the tables tell about all arguments of the law of circles. -/
import Derived.Test.YtflcjmgenfmhkaaCm
import Derived.Test.YtflcjmgenfmhkaaCn1
import Derived.Test.YtflcjmgenfmhkaaCn2
import Derived.Test.YtflcjmgenfmhkaaCn3
import Derived.Test.YtflcjmgenfmhkaaCn4
import Derived.Test.YtflcjmgenfmhkaaCn5
import Derived.Test.YtflcjmgenfmhkaaCn6
namespace Go.Proofs.Ytflcjmgenfmhkaa.Circ
open Go
open Quick

abbrev c64 : Nat := 4634204016564240384
theorem ph_fact (n : Int) (h1 : -256 ≤ n) (h2 : n ≤ 254) : ∃ (i t f : Nat), i < 64 ∧ (i : Int) = n % 64 ∧ floatBits .quo .f64 (fi n) c64 = some t ∧ t < 18446744073709551616 ∧ calm t = true ∧ fraction t = some f ∧ phaseOf f = some ((phA i).1, (phA i).2) := by
  have hw := List.all_eq_true.1 whole_all (n + 256).toNat (List.mem_range.2 (by omega))
  rw [show ((n + 256).toNat : Int) - 256 = n by omega] at hw
  unfold whole64 at hw
  have hi : (n.emod 64).toNat < 64 := by
    have : n.emod 64 = n % 64 := rfl
    omega
  have hp := List.all_eq_true.1 phase_all (n.emod 64).toNat (List.mem_range.2 hi)
  have he : (((n.emod 64).toNat : Nat) : Int) = n % 64 := by
    have : n.emod 64 = n % 64 := rfl
    omega
  cases e : floatBits .quo .f64 (fi n) c64 with
  | none => rw [e] at hw; cases hw
  | some t =>
    rw [e] at hw
    rw [Bool.and_eq_true, Bool.and_eq_true, decide_eq_true_eq, beq_iff_eq] at hw
    obtain ⟨w1, w2, w3⟩ := hw
    have hem : n.emod 64 = (((n.emod 64).toNat : Nat) : Int) := by rw [he]; rfl
    rw [hem] at w3
    exact ⟨_, t, _, hi, he, rfl, w2, w1, w3, beq_iff_eq.1 hp⟩
/-- What the law asks of the angle. -/
def angN (n : Int) (g : Nat) : Option Nat :=
  af (qwide g) fun x => opf .mul x c64 fun ang => opf .sub ang (fi n) fun turn => opf .add turn 4666723447345250304 fun s => (qtoInt s).bind fun wh =>
  af (gap turn (fi (wh - 10000))) fun d => cond (gt d 4562254508917369340) none (cond (decide ((wh - 10000).tmod 64 = 0 ∧ 0 ≤ wh ∧ wh ≤ 1000000)) (some 1) none)
/-- What the law asks of the power. -/
def powN (p : Nat) : Option Nat := af (qwide p) fun x => af (gap x one) fun d => cond (gt d 4547007122018943789) none (some 1)
/-- What the law asks of the real part at quarters. -/
def reN (r : Nat) : Option Nat := af (qwide r) fun x => af (gap x 0) fun d => cond (Nat.beq d 0) (some d) (cond (Nat.beq d one) (some d) none)
set_option maxRecDepth 100000 in
theorem ang_all : (List.range 256).all (fun k => angN ((k : Int) - 128) (anT.getD (((k : Int) - 128).emod 64).toNat 0) == some 1) = true := by decide +kernel
set_option maxRecDepth 100000 in
theorem pow_all : (List.range 64).all (fun i => powN (poT.getD i 0) == some 1) = true := by decide +kernel
set_option maxRecDepth 100000 in
theorem re_all : (List.range 4).all (fun i => (reN (phA (16 * i)).1).isSome) = true := by decide +kernel
def prodN (i j : Nat) : Bool :=
  match mulC (phA i).1 (phA i).2 (phA j).1 (phA j).2 with
  | none => false
  | some (u, v) => match nearC u v (phA (Nat.mod (Nat.add i j) 64)).1 (phA (Nat.mod (Nat.add i j) 64)).2 4547007122018943789 with | some 1 => true | _ => false
set_option maxRecDepth 100000 in
theorem prods_all : loopB (fun i => loopB (prodN i) 64) 64 = true := by decide +kernel
theorem ang_fact (n : Int) (h1 : -128 ≤ n) (h2 : n ≤ 127) (i : Nat) (hi : (i : Int) = n % 64) : ∃ (g x ang turn s d : Nat) (wh : Int), angC (phA i).1 (phA i).2 = some g ∧ qwide g = some x ∧ floatBits .mul .f64 x c64 = some ang ∧
    floatBits .sub .f64 ang (fi n) = some turn ∧ floatBits .add .f64 turn 4666723447345250304 = some s ∧ floatToIntVal .f64 s .i64 = some wh ∧ gap turn (fi (wh - 10000)) = some d ∧ (FloatKind.f64.format.order d 4562254508917369340 == some .gt) = false ∧ (wh - 10000).tmod 64 = 0 ∧ 0 ≤ wh ∧ wh ≤ 1000000 := by
  have ha := List.all_eq_true.1 angle_all i (List.mem_range.2 (by omega))
  have hw := List.all_eq_true.1 ang_all (n + 128).toNat (List.mem_range.2 (by omega))
  rw [show ((n + 128).toNat : Int) - 128 = n by omega] at hw
  have he : (n.emod 64).toNat = i := by
    have : n.emod 64 = n % 64 := rfl
    omega
  rw [he] at hw
  have hw := beq_iff_eq.1 hw
  unfold angN at hw
  obtain ⟨x, hx, hw⟩ := af_some hw
  obtain ⟨ang, hang, hw⟩ := opf_some hw
  obtain ⟨turn, hturn, hw⟩ := opf_some hw
  obtain ⟨s, hs, hw⟩ := opf_some hw
  obtain ⟨wh, hwh, hw⟩ := Option.bind_eq_some_iff.1 hw
  obtain ⟨d, hd, hw⟩ := af_some hw
  cases c : gt d 4562254508917369340 with
  | true => rw [c] at hw; cases hw
  | false =>
    rw [c] at hw
    cases c2 : decide ((wh - 10000).tmod 64 = 0 ∧ 0 ≤ wh ∧ wh ≤ 1000000) with
    | false => rw [c2] at hw; cases hw
    | true =>
      rw [qtoInt_eq] at hwh
      refine ⟨_, x, ang, turn, s, d, wh, beq_iff_eq.1 ha, hx, hang, hturn, hs, hwh, hd, ?_, of_decide_eq_true c2⟩
      rw [← gt_eq]; exact c
theorem pow_fact (i : Nat) (hi : i < 64) : ∃ (p x d : Nat), powC (phA i).1 (phA i).2 = some p ∧ qwide p = some x ∧ gap x one = some d ∧ (FloatKind.f64.format.order d 4547007122018943789 == some .gt) = false := by
  have ha := List.all_eq_true.1 power_all i (List.mem_range.2 hi)
  have hw := beq_iff_eq.1 (List.all_eq_true.1 pow_all i (List.mem_range.2 hi))
  unfold powN at hw
  obtain ⟨x, hx, hw⟩ := af_some hw
  obtain ⟨d, hd, hw⟩ := af_some hw
  cases c : gt d 4547007122018943789 with
  | true => rw [c] at hw; cases hw
  | false => exact ⟨_, x, d, beq_iff_eq.1 ha, hx, hd, by rw [← gt_eq]; exact c⟩
theorem re_fact (n : Int) (i : Nat) (hi : (i : Int) = n % 64) (hn : n.tmod 16 = 0) : ∃ (x d : Nat), qwide (phA i).1 = some x ∧ gap x 0 = some d ∧ (d = 0 ∨ d = one) := by
  have hn16 : n % 16 = 0 := by
    have := Int.dvd_of_tmod_eq_zero hn
    omega
  have h := List.all_eq_true.1 re_all (i / 16) (List.mem_range.2 (by omega))
  rw [show 16 * (i / 16) = i by omega] at h
  obtain ⟨v, hv⟩ := Option.isSome_iff_exists.1 h
  unfold reN at hv
  obtain ⟨x, hx, hv⟩ := af_some hv
  obtain ⟨d, hd, hv⟩ := af_some hv
  refine ⟨x, d, hx, hd, ?_⟩
  rw [cond_beq, cond_beq] at hv
  split at hv
  · left; assumption
  · split at hv
    · right; assumption
    · cases hv
theorem prods_fact (i j k : Nat) (hi : i < 64) (hj : j < 64) (hk : k = (i + j) % 64) : ∃ (u v : Nat), mulC (phA i).1 (phA i).2 (phA j).1 (phA j).2 = some (u, v) ∧ nearC u v (phA k).1 (phA k).2 4547007122018943789 = some 1 := by
  subst hk
  have h := loopB_all (loopB_all prods_all i hi) j hj
  unfold prodN at h
  split at h
  · cases h
  · rename_i u v e
    refine ⟨u, v, e, ?_⟩
    split at h
    · rename_i e2; exact e2
    · cases h
theorem calm32_fact {x : Nat} (h : calm32 x = true) : ∃ d, floatBits .sub .f32 x x = some d ∧ (FloatKind.f32.format.order d 0 == some .eq) = true ∧ (FloatKind.f32.format.order x 0 == some .lt) = false ∧ (FloatKind.f32.format.order x 0 == some .eq) = false := by
  unfold calm32 at h
  rw [Bool.and_eq_true] at h
  obtain ⟨h1, h2⟩ := h
  split at h1
  · rename_i d e
    rw [qbits_eq] at e
    refine ⟨d, e, ?_⟩
    rw [qorder_eq] at h1
    split at h1
    · rename_i e1
      rw [qorder_eq] at h2
      split at h2
      · rename_i e2
        rw [e1, e2]
        exact ⟨rfl, rfl, rfl⟩
      · cases h2
    · cases h1
  · cases h1
set_option maxRecDepth 100000 in
theorem tn_small : (List.range 200).all (fun k => decide (tnT.getD k 0 ≤ 1000)) = true := by decide +kernel
/-- Both numbers and their product. -/
theorem ten_fact (i j : Nat) (hi : i < 200) (hj : j < 200) : ∃ (x y z : Nat) (m n o : Int), floatBits .quo .f32 (floatOfInt .f32 (1 + (i : Int))) 1090519040 = some x ∧ floatBits .quo .f32 (floatOfInt .f32 (1 + (j : Int))) 1090519040 = some y ∧
    floatBits .mul .f32 x y = some z ∧ calm32 x = true ∧ calm32 y = true ∧ calm32 z = true ∧ tenP x = some m ∧ tenP y = some n ∧ tenP z = some o ∧ m + n - o ≤ 1 ∧ o - m - n ≤ 1 ∧ -1000 ≤ m ∧ m ≤ 1000 ∧ -1000 ≤ n ∧ n ≤ 1000 := by
  have one : ∀ k : Nat, k < 200 → floatBits .quo .f32 (floatOfInt .f32 (1 + (k : Int))) 1090519040 = some (pB (8 * (k + 1))) ∧ calm32 (pB (8 * (k + 1))) = true ∧ ∃ o, tenP (pB (8 * (k + 1))) = some o ∧ o + 200 = ((tnT.getD k 0 : Nat) : Int) := by
    intro k hk
    have h := loopB_all one_all k hk
    unfold oneOk at h
    rw [fo_eq, Bool.and_eq_true, Bool.and_eq_true] at h
    obtain ⟨⟨h1, h2⟩, h3⟩ := h
    split at h2
    · rename_i y e
      refine ⟨?_, h1, ?_⟩
      · rw [e]
        exact congrArg some (Nat.eq_of_beq_eq_true h2).symm
      · split at h3
        · rename_i o e2
          exact ⟨o, e2, of_decide_eq_true h3⟩
        · cases h3
    · cases h2
  obtain ⟨a1, a2, m, a3, a4⟩ := one i hi
  obtain ⟨b1, b2, n, b3, b4⟩ := one j hj
  have hm := loopB_all (loopB_all mul_all i hi) j hj
  unfold mulOk at hm
  rw [show Nat.mul (Nat.succ i) (Nat.succ j) = (i + 1) * (j + 1) from rfl] at hm
  rw [Bool.and_eq_true] at hm
  obtain ⟨m1, m2⟩ := hm
  have hz : floatBits .mul .f32 (pB (8 * (i + 1))) (pB (8 * (j + 1))) = some (pB ((i + 1) * (j + 1))) := by
    split at m1
    · rename_i y e
      rw [qbits_eq] at e
      have := Nat.eq_of_beq_eq_true m1
      rw [this] at e
      exact e
    · cases m1
  -- the product's own check
  have hpk : prodOk ((i + 1) * (j + 1)) = true := by
    have hp : (i + 1) * (j + 1) ≤ 200 * 200 := Nat.mul_le_mul (by omega) (by omega)
    obtain ⟨p, hp2⟩ : ∃ p, (i + 1) * (j + 1) = p := ⟨_, rfl⟩
    rw [hp2] at hp ⊢
    by_cases c1 : p < 2772
    · exact loopB_all prod_1 p c1
    · by_cases c2 : p < 6604
      · have := loopB_all prod_2 (p - 2772) (by omega)
        rw [show Nat.add (p - 2772) 2772 = p by show p - 2772 + 2772 = p; omega] at this
        exact this
      · by_cases c3 : p < 11222
        · have := loopB_all prod_3 (p - 6604) (by omega)
          rw [show Nat.add (p - 6604) 6604 = p by show p - 6604 + 6604 = p; omega] at this
          exact this
        · by_cases c4 : p < 16698
          · have := loopB_all prod_4 (p - 11222) (by omega)
            rw [show Nat.add (p - 11222) 11222 = p by show p - 11222 + 11222 = p; omega] at this
            exact this
          · by_cases c5 : p < 23616
            · have := loopB_all prod_5 (p - 16698) (by omega)
              rw [show Nat.add (p - 16698) 16698 = p by show p - 16698 + 16698 = p; omega] at this
              exact this
            · have := loopB_all prod_6 (p - 23616) (by omega)
              rw [show Nat.add (p - 23616) 23616 = p by show p - 23616 + 23616 = p; omega] at this
              exact this
  unfold prodOk at hpk
  rw [m2, fo_eq, cond_true, Bool.and_eq_true] at hpk
  have hpk2 := hpk
  obtain ⟨k1, k2⟩ := hpk2
  split at k2
  · rename_i o e
    have hq := loopB_all k2 i hi
    unfold pairOk at hq
    rw [cond_beq, cond_ble] at hq
    have d1 : Nat.mod ((i + 1) * (j + 1)) (i + 1) = 0 := Nat.mul_mod_right _ _
    have d2 : Nat.div ((i + 1) * (j + 1)) (i + 1) = j + 1 := Nat.mul_div_cancel_left _ (by omega)
    rw [if_pos d1, d2, if_pos (by omega), fo_eq, Bool.and_eq_true, decide_eq_true_eq, decide_eq_true_eq] at hq
    have e1 : Nat.add (tnT.getD i 0) (tnT.getD (Nat.sub (j + 1) 1) 0) = tnT.getD i 0 + tnT.getD j 0 := rfl
    rw [e1] at hq
    have tb := fun k hk => of_decide_eq_true (List.all_eq_true.1 tn_small k (List.mem_range.2 hk))
    have tbi := tb i hi
    have tbj := tb j hj
    refine ⟨_, _, _, m, n, o, a1, b1, hz, a2, b2, k1, a3, b3, e, ?_, ?_, ?_, ?_, ?_, ?_⟩ <;> omega
  · cases k2
end Go.Proofs.Ytflcjmgenfmhkaa.Circ

/- Plain law: sums of heights, as singles: exact on a grid, near else; drops keep them, nearly. Conditions: at most 36 heights. -/
import Derived.Test.YtoibgpmpngccjaaSlj
import Derived.Test.YtoibgpmpngccjaaHr
namespace Go.Proofs.Ytoibgpmpngccjaa
open Go.RowKit
open Num Quick

/-- The sum of the first k heights. -/
def smF (xs : List Nat) : Nat → Nat
  | 0 => 0
  | k + 1 => (floatBits .add .f32 (smF xs k) (xs.getD k 0)).getD 0
theorem smF_next {xs : List Nat} {k r : Nat} (h : floatBits .add .f32 (smF xs k) (xs.getD k 0) = some r) : smF xs (k + 1) = r := by
  show (floatBits .add .f32 (smF xs k) (xs.getD k 0)).getD 0 = r
  rw [h]
  rfl
theorem msum_take {xs : List Nat} {k : Nat} (h : k < xs.length) : msum (xs.take (k + 1)) = msum (xs.take k) + Num.fv .f32 (xs.getD k 0) := by
  rw [List.take_add_one, msum_append, List.getElem?_eq_getElem h, List.getD_eq_getElem?_getD, List.getElem?_eq_getElem h]
  simp only [Option.toList, msum, Option.getD]
  grind
/-- Heights on the grid are summed without an error. -/
theorem sm_exact {xs : List Nat} {zs : Nat → Int} {N : Nat} (hl : xs.length = N) (hN : N ≤ 36) (hz : ∀ k, k < N → Gn 7 (zs k) (xs.getD k 0) ∧ (zs k).natAbs ≤ 20000) :
    ∀ k, k ≤ N → (∃ S : Int, Gn 7 S (smF xs k) ∧ S.natAbs ≤ 20000 * k) ∧ Num.fv .f32 (smF xs k) = msum (xs.take k)
  | 0, _ => ⟨⟨0, Gn.zero 7, by omega⟩, by rw [List.take_zero]; exact c0.2⟩
  | k + 1, hk => by
    obtain ⟨⟨S, h1, h2⟩, h3⟩ := sm_exact hl hN hz k (by omega)
    obtain ⟨z1, z2⟩ := hz k (by omega)
    obtain ⟨r, e, g⟩ := h1.add z1 (by omega) (by omega)
    rw [smF_next e]
    refine ⟨⟨S + zs k, g, by omega⟩, ?_⟩
    rw [msum_take (by omega), ← h3, g.val, h1.val, z1.val, Rat.intCast_add]
    have hp := pow_pos' 7
    grind
theorem sm_exact_step {xs : List Nat} {zs : Nat → Int} {N : Nat} (hl : xs.length = N) (hN : N ≤ 36) (hz : ∀ k, k < N → Gn 7 (zs k) (xs.getD k 0) ∧ (zs k).natAbs ≤ 20000) (k : Nat) (hk : k < N) : floatBits .add .f32 (smF xs k) (xs.getD k 0) = some (smF xs (k + 1)) := by
  obtain ⟨⟨S, h1, h2⟩, _⟩ := sm_exact hl hN hz k (by omega)
  obtain ⟨z1, z2⟩ := hz k hk
  obtain ⟨r, e, g⟩ := h1.add z1 (by omega) (by omega)
  rw [smF_next e]
  exact e
/-- Heights of middling size are summed nearly. -/
theorem sm_near {xs : List Nat} {N : Nat} (hl : xs.length = N) (hN : N ≤ 36) (h : HsOk 6 xs) :
    ∀ k, k ≤ N → Fl .f32 (smF xs k) ∧ InR (Num.fv .f32 (smF xs k)) (7 * (k : Rat)) ∧ InR (Num.fv .f32 (smF xs k) - msum (xs.take k)) ((k : Rat) / 65536) ∧ ∀ j, j < k → floatBits .add .f32 (smF xs j) (xs.getD j 0) = some (smF xs (j + 1))
  | 0, _ => by
    refine ⟨c0.1, ?_, ?_, fun j hj => absurd hj (by omega)⟩
    · show InR (Num.fv .f32 0) _
      rw [c0.2]
      constructor <;> decide +kernel
    · show InR (Num.fv .f32 0 - msum []) _
      rw [c0.2]
      constructor <;> decide +kernel
  | k + 1, hk => by
    obtain ⟨h1, h2, h3, h4⟩ := sm_near hl hN h k (by omega)
    obtain ⟨f1, f2⟩ := h k (by omega)
    have hk36 : (k : Rat) ≤ 35 := by
      have : ((k : Nat) : Rat) ≤ ((35 : Nat) : Rat) := Rat.natCast_le_natCast.2 (by omega)
      exact this
    have hk0 : (0 : Rat) ≤ (k : Rat) := Rat.natCast_nonneg
    have hc : ((k + 1 : Nat) : Rat) = (k : Rat) + 1 := by rw [Rat.natCast_add]; rfl
    have i1 : InR (Num.fv .f32 (smF xs k) + Num.fv .f32 (xs.getD k 0)) 256 := by unfold InR at *; constructor <;> grind
    have t : (256 : Rat) ≤ top := by decide +kernel
    obtain ⟨r, e, g⟩ := fadd h1 f1 (by unfold InR at i1; generalize top = T at *; grind) (by unfold InR at i1; generalize top = T at *; grind)
    have n1 := near_to g 8 (by decide) (by decide) (show p2 8 = 256 by decide +kernel) (show p2 (8 - 24) = 1 / 65536 by decide +kernel) i1
    refine ⟨by rw [smF_next e]; exact g.fin, ?_, ?_, fun j hj => ?_⟩
    · rw [smF_next e, hc]
      generalize Num.fv .f32 r = R at *
      generalize Num.fv .f32 (smF xs k) = a at *
      generalize Num.fv .f32 (xs.getD k 0) = b at *
      unfold InR at *
      constructor <;> grind
    · rw [smF_next e, hc, msum_take (by omega)]
      generalize Num.fv .f32 r = R at *
      generalize Num.fv .f32 (smF xs k) = a at *
      generalize Num.fv .f32 (xs.getD k 0) = b at *
      generalize msum (xs.take k) = M at *
      unfold InR at *
      constructor <;> grind
    · rcases Nat.lt_succ_iff_lt_or_eq.1 hj with hj | rfl
      · exact h4 j hj
      · rw [smF_next e]; exact e
/-- A drop that falls on a sheet. -/
theorem drop_near {W Hh tk lv st : Nat} (ht : Fl .f32 tk) (ht0 : 0 ≤ Num.fv .f32 tk) (ht1 : Num.fv .f32 tk ≤ 1 / 2) (hlv : Fl .f32 lv) (hv0 : 0 ≤ Num.fv .f32 lv) (hv1 : Num.fv .f32 lv ≤ 1) {B : Rat} (hB : B ≤ 5) (hst : st ≤ 20) {H Hf : List Nat} {a n : Nat} (hl : H.length = W * Hh) (ha : a < W * Hh) (hs : HsOk B H)
    (h : Run (nxI W Hh) tk lv st H a 0 Hf n) : HsOk (B + 161 * dl) Hf ∧ InR (msum Hf - msum H) (121 * dl) ∧ n ≤ st := by
  have hd : DrI B 0 (msum H) H a 0 := by
    refine ⟨hs.mono (by grind), c0.1, by rw [c0.2]; exact Rat.le_refl, ?_, ?_⟩
    · rw [c0.2]
      have := (hs a (by omega)).2
      unfold InR at this
      grind
    · rw [c0.2]
      unfold InR
      constructor <;> grind
  have hst' : ((st : Nat) : Rat) ≤ ((20 : Nat) : Rat) := Rat.natCast_le_natCast.2 hst
  have e20 : ((20 : Nat) : Rat) = 20 := rfl
  rw [e20] at hst'
  have hd0 : (0 : Rat) ≤ dl := by decide +kernel
  have hm : (st : Rat) * dl ≤ 20 * dl := Rat.mul_le_mul_of_nonneg_right hst' hd0
  have hq : 20 * dl ≤ 1 / 1000 := by decide +kernel
  obtain ⟨h1, h2, h3⟩ := run_num (m0 := msum H) ht ht0 ht1 hlv hv0 hv1 hB h 0 hl ha hd (Rat.le_refl) (by grind)
  refine ⟨h1.mono ?_, ?_, h3⟩
  · generalize (st : Rat) * dl = z at *
    generalize dl = D at *
    grind
  · generalize (st : Rat) * dl = z at *
    generalize dl = D at *
    unfold InR at *
    constructor <;> grind
/-- Many drops. -/
theorem many_near {W Hh tk lv st : Nat} (hW : 1 ≤ W) (hH : 1 ≤ Hh) (ht : Fl .f32 tk) (ht0 : 0 ≤ Num.fv .f32 tk) (ht1 : Num.fv .f32 tk ≤ 1 / 2) (hlv : Fl .f32 lv) (hv0 : 0 ≤ Num.fv .f32 lv) (hv1 : Num.fv .f32 lv ≤ 1) (hst : st ≤ 20) {k : Nat} {C : List Nat} {s : Nat} {r : Option (List Nat × Nat)} (h : Many (nxI W Hh) W Hh tk lv st k C s r) :
    ∀ B : Rat, C.length = W * Hh → HsOk B C → B + 161 * ((k : Rat) * dl) ≤ 5 → ∃ Hf s', r = some (Hf, s') ∧ Hf.length = W * Hh ∧ HsOk (B + 161 * ((k : Rat) * dl)) Hf ∧ InR (msum Hf - msum C) (121 * ((k : Rat) * dl)) := by
  have hd0 : (0 : Rat) ≤ dl := by decide +kernel
  induction h with
  | @done C s =>
    intro B hl hs hB
    refine ⟨C, s, rfl, hl, hs.mono ?_, ?_⟩
    · have : ((0 : Nat) : Rat) = 0 := rfl
      rw [this]
      grind
    · have : ((0 : Nat) : Rat) = 0 := rfl
      rw [this]
      unfold InR
      constructor <;> grind
  | @good k C s Cf m r hrun hfin _ ih =>
    intro B hl hs hB
    have hc : ((k + 1 : Nat) : Rat) * dl = (k : Rat) * dl + dl := by
      rw [Rat.natCast_add, show ((1 : Nat) : Rat) = 1 from rfl]
      grind
    have hkd : 0 ≤ (k : Rat) * dl := Rat.mul_nonneg Rat.natCast_nonneg hd0
    rw [hc] at hB ⊢
    obtain ⟨h1, h2, _⟩ := drop_near ht ht0 ht1 hlv hv0 hv1 (B := B) (by generalize (k : Rat) * dl = z at *; generalize dl = D at *; grind) hst hl (placeAt_lt hW hH s) hs hrun
    obtain ⟨Hf, s', e, l, q1, q2⟩ := ih (B + 161 * dl) (by rw [run_len hrun]; exact hl) h1 (by generalize (k : Rat) * dl = z at *; generalize dl = D at *; grind)
    refine ⟨Hf, s', e, l, q1.mono ?_, ?_⟩
    · generalize (k : Rat) * dl = z at *
      generalize dl = D at *
      grind
    · generalize (k : Rat) * dl = z at *
      generalize dl = D at *
      unfold InR at *
      constructor <;> grind
  | @bad k C s Cf m hrun hfin =>
    intro B hl hs hB
    have hc : ((k + 1 : Nat) : Rat) * dl = (k : Rat) * dl + dl := by
      rw [Rat.natCast_add, show ((1 : Nat) : Rat) = 1 from rfl]
      grind
    have hkd : 0 ≤ (k : Rat) * dl := Rat.mul_nonneg Rat.natCast_nonneg hd0
    rw [hc] at hB
    obtain ⟨h1, h2, _⟩ := drop_near ht ht0 ht1 hlv hv0 hv1 (B := B) (by generalize (k : Rat) * dl = z at *; generalize dl = D at *; grind) hst hl (placeAt_lt hW hH s) hs hrun
    rw [h1.all] at hfin
    cases hfin
end Go.Proofs.Ytoibgpmpngccjaa

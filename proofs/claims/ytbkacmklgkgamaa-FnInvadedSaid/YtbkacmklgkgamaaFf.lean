/- Plain facts on single-precision numbers, and the walk's law on their operations: what is not a number is left to the tape. Conditions: as each says. -/
import Derived.Test.YtbkacmklgkgamaaRows
import Derived.WalkKit
import Derived.WalkLawsBesides
import Derived.Laws.FloatBits
import Derived.Deep.RegionLaw
import Derived.Lib.Hide
namespace Go.Proofs.Ytbkacmklgkgamaa
open Go.RowKit

/-- A finite number's word. -/
def finW (x : Nat) : Bool := match Ieee.single.read x with | .number .. => true | _ => false
theorem finW_iff {x : Nat} : finW x = true ↔ ∃ s m i, Ieee.single.read x = .number s m i := by
  unfold finW
  split
  · rename_i s m i h
    exact ⟨fun _ => ⟨s, m, i, h⟩, fun _ => rfl⟩
  · rename_i h
    exact ⟨fun h => (by cases h), fun ⟨s, m, i, h'⟩ => absurd h' (h s m i)⟩
theorem fin_inf (s : Bool) : finW (Ieee.single.write (.infinity s)) = false := by cases s <;> decide
theorem not_fin {x : Nat} (h : finW x = false) : (∃ s, Ieee.single.read x = .infinity s) ∨ ∃ s t, Ieee.single.read x = .nan s t := by
  unfold finW at h
  split at h
  · cases h
  · rename_i h'
    cases hr : Ieee.single.read x with
    | number s m i => exact absurd hr (h' s m i)
    | infinity s => exact .inl ⟨s, rfl⟩
    | nan s t => exact .inr ⟨s, t, rfl⟩
/-- An operation's result in bits, where the standard tells it. -/
def fbits (op : BinOp) (x y : Nat) : Option Nat :=
  match op with
  | .add => Ieee.single.add x y
  | .sub => Ieee.single.sub x y
  | .mul => Ieee.single.mul x y
  | _ => none
/-- An operation's result, as the model gives it. -/
def FR (op : BinOp) (x y r : Nat) : Prop := fbits op x y = some r ∨ (fbits op x y = none ∧ finW r = false)
theorem FR.add {x y r : Nat} (h : FR .add x y r) : Ieee.single.add x y = some r ∨ (Ieee.single.add x y = none ∧ finW r = false) := h
theorem FR.bad {op : BinOp} {x y r : Nat} (ho : op = .add ∨ op = .sub ∨ op = .mul) (h : FR op x y r) (hb : finW x = false ∨ finW y = false) : finW r = false := by
  rcases h with h | h
  · rcases ho with rfl | rfl | rfl
    · simp only [fbits, Ieee.Format.add] at h
      rcases hb with hb | hb <;> rcases not_fin hb with ⟨s, e⟩ | ⟨s, t, e⟩
      · rw [e] at h
        cases hy : Ieee.single.read y <;> rw [hy] at h <;> simp [Ieee.Datum.sum] at h
        · subst h; exact fin_inf s
        · obtain ⟨_, h⟩ := h
          subst h; exact fin_inf _
      · rw [e] at h
        simp [Ieee.Datum.sum] at h
      · rw [e] at h
        cases hx : Ieee.single.read x <;> rw [hx] at h <;> simp [Ieee.Datum.sum] at h
        · subst h; exact fin_inf s
        · obtain ⟨_, h⟩ := h
          subst h; exact fin_inf _
      · rw [e] at h
        cases hx : Ieee.single.read x <;> rw [hx] at h <;> simp [Ieee.Datum.sum] at h
    · simp only [fbits, Ieee.Format.sub] at h
      rcases hb with hb | hb <;> rcases not_fin hb with ⟨s, e⟩ | ⟨s, t, e⟩
      · rw [e] at h
        cases hy : Ieee.single.read y <;> rw [hy] at h <;> simp [Ieee.Datum.sum, Ieee.Datum.opposite] at h
        · subst h; exact fin_inf s
        · obtain ⟨_, h⟩ := h
          subst h; exact fin_inf _
      · rw [e] at h
        simp [Ieee.Datum.sum, Ieee.Datum.opposite] at h
      · rw [e] at h
        cases hx : Ieee.single.read x <;> rw [hx] at h <;> simp [Ieee.Datum.sum, Ieee.Datum.opposite] at h
        · subst h; exact fin_inf _
        · obtain ⟨_, h⟩ := h
          subst h; exact fin_inf _
      · rw [e] at h
        cases hx : Ieee.single.read x <;> rw [hx] at h <;> simp [Ieee.Datum.sum, Ieee.Datum.opposite] at h
    · simp only [fbits, Ieee.Format.mul] at h
      have key : ∀ d d' : Ieee.Datum, ((∃ s, d = .infinity s) ∨ (∃ s t, d = .nan s t)) ∨ ((∃ s, d' = .infinity s) ∨ (∃ s t, d' = .nan s t)) → ∀ e, d.product d' = some e → ∃ s, e = .infinity s := by
        intro d d' hd e he
        cases d <;> cases d' <;> simp [Ieee.Datum.product] at he hd
        all_goals first
          | exact ⟨_, he.symm⟩
          | exact ⟨_, he.2.symm⟩
      cases hp : (Ieee.single.read x).product (Ieee.single.read y) with
      | none => rw [hp] at h; cases h
      | some e =>
        obtain ⟨s, rfl⟩ := key _ _ (hb.imp not_fin not_fin) e hp
        rw [hp] at h
        injection h with h
        rw [← h]
        exact fin_inf s
  · exact h.2
theorem fbits_fin {op : BinOp} (ho : op = .add ∨ op = .sub ∨ op = .mul) {x y : Nat} (hx : finW x = true) (hy : finW y = true) : ∃ r, fbits op x y = some r := by
  obtain ⟨s, m, i, ex⟩ := finW_iff.1 hx
  obtain ⟨t, n, j, ey⟩ := finW_iff.1 hy
  rcases ho with rfl | rfl | rfl
  · simp [fbits, Ieee.Format.add, ex, ey, Ieee.Datum.sum]
  · simp [fbits, Ieee.Format.sub, ex, ey, Ieee.Datum.sum, Ieee.Datum.opposite]
  · simp [fbits, Ieee.Format.mul, ex, ey, Ieee.Datum.product]
theorem FR.fin {op : BinOp} {x y r : Nat} (ho : op = .add ∨ op = .sub ∨ op = .mul) (h : FR op x y r) (hx : finW x = true) (hy : finW y = true) : fbits op x y = some r := by
  obtain ⟨q, hq⟩ := fbits_fin ho hx hy
  rcases h with h | h
  · exact h
  · rw [hq] at h; cases h.1
theorem fbits_lt {op : BinOp} {x y r : Nat} (h : fbits op x y = some r) : r < 2 ^ 32 := by
  unfold fbits at h
  split at h
  · exact Ieee.single.add_lt h
  · exact Ieee.single.sub_lt h
  · exact Ieee.single.mul_lt h
  · cases h
theorem fin_high {x : Nat} (h : 2139095040 < x % 2147483648) : finW x = false := by
  have hs : Ieee.single.signWeight = 2147483648 := by decide
  have hb : Ieee.single.binade = 8388608 := by decide
  have hi : Ieee.single.infRung = 2139095040 := by decide
  have hr : Ieee.single.read x = .nan (x / 2147483648 % 2 == 1) (x % 2147483648 - 2139095040) := by
    unfold Ieee.Format.read
    rw [hs, hb, hi]
    generalize x % 2147483648 = q at h
    simp only
    rw [if_neg (by omega), if_neg (by omega), if_neg (by omega)]
  unfold finW
  rw [hr]
theorem nan_word (t : Nat) : finW ((t % 2) * 2 ^ 31 + 0x7f800000 + 1 + (t / 2) % (2 ^ 23 - 1)) = false := by
  apply fin_high
  have h2 : (t / 2) % (2 ^ 23 - 1) < 2 ^ 23 - 1 := Nat.mod_lt _ (by decide)
  generalize (t / 2) % (2 ^ 23 - 1) = q at h2
  have p1 : (2 : Nat) ^ 31 = 2147483648 := by decide
  have p2 : (2 : Nat) ^ 23 - 1 = 8388607 := by decide
  rw [p1]
  rw [p2] at h2
  omega
theorem nan_word_lt (t : Nat) : (t % 2) * 2 ^ 31 + 0x7f800000 + 1 + (t / 2) % (2 ^ 23 - 1) < 2 ^ 32 := by
  have h2 : (t / 2) % (2 ^ 23 - 1) < 2 ^ 23 - 1 := Nat.mod_lt _ (by decide)
  omega
section
variable {P : Program}
theorem run_float_any (op : BinOp) (ho : op = .add ∨ op = .sub ∨ op = .mul) (t : TypeId) (x y : Nat) (w : World) : ∃ r m, (binOp op t (.float .f32 x) (.float .f32 y)).run P w = .ok (.float .f32 r) (w.drewN m) ∧ FR op x y r ∧ (r < 2 ^ 32) := by
  cases h : fbits op x y with
  | some r =>
    refine ⟨r, 0, ?_, .inl h, fbits_lt h⟩
    rw [show w.drewN 0 = w from rfl]
    refine run_float_arith w op t .f32 x y r ?_
    unfold floatBits
    rcases ho with rfl | rfl | rfl <;> exact h
  | none =>
    have key : ∃ r, (binOp op t (.float .f32 x) (.float .f32 y)).run P w = .ok (.float .f32 r) (w.drewN 1) ∧ finW r = false ∧ r < 2 ^ 32 := by
      refine ⟨_, ?_, nan_word (w.tape w.drawn (.nanBits .f32 x y)), nan_word_lt _⟩
      rcases ho with rfl | rfl | rfl
      · simp only [fbits] at h
        simp [binOp, Op.floatArith, FloatKind.format, h]
        rfl
      · simp only [fbits] at h
        simp [binOp, Op.floatArith, FloatKind.format, h]
        rfl
      · simp only [fbits] at h
        simp [binOp, Op.floatArith, FloatKind.format, h]
        rfl
    obtain ⟨r, h1, h2, h3⟩ := key
    exact ⟨r, 1, h1, .inr ⟨h, h2⟩, h3⟩
end
end Go.Proofs.Ytbkacmklgkgamaa

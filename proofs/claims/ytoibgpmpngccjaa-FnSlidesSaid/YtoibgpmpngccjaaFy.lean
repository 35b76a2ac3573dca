/- Plain facts on floats (no program): a number compared with itself; what equals zero. Conditions: none. -/
import Derived.WalkKit
import Derived.WalkLawsBesides
import Derived.Test.YtoibgpmpngccjaaFs2
import Derived.StillTailTactics
import Derived.WalkSpells
namespace Go.Proofs.Ytoibgpmpngccjaa
open Go.RowKit

theorem order_self (f : Ieee.Format) (x : Nat) : f.order x x = some .eq ∨ f.order x x = none := by
  unfold Ieee.Format.order
  cases h : f.read x with
  | number s m e => left; simp [Ieee.Datum.order]
  | infinity s => left; simp [Ieee.Datum.order]
  | nan s t => right; simp [Ieee.Datum.order]

theorem signed_zero {s : Bool} {m k j : Nat} (h : Ieee.signed s m k = Ieee.signed false 0 j) : m = 0 := by
  unfold Ieee.signed at h
  have hk : 0 < 2 ^ k := Nat.pow_pos (by omega)
  have hm : m * 2 ^ k = 0 := by
    simp only [Nat.shiftLeft_eq, Nat.zero_mul] at h
    generalize m * 2 ^ k = z at h
    cases s <;> simp at h <;> omega
  rcases Nat.mul_eq_zero.1 hm with h' | h' <;> omega

theorem double_zero {x : Nat} (hx : x < 2 ^ 64) (h : Ieee.double.order x 0 = some .eq) : x = 0 ∨ x = 9223372036854775808 := by
  have h0 : Ieee.double.read 0 = .number false 0 Ieee.double.leastPlace := by decide
  have hr : x % Ieee.double.signWeight = 0 := by
    unfold Ieee.Format.order at h
    rw [h0] at h
    unfold Ieee.Format.read at h
    simp only at h
    split at h
    · simp only [Ieee.Datum.order, Option.some.injEq] at h
      have h := signed_zero (by simpa using h)
      omega
    · split at h
      · simp only [Ieee.Datum.order, Option.some.injEq] at h
        have h := signed_zero (by simpa using h)
        have hb : 0 < Ieee.double.binade := by decide
        omega
      · split at h
        · cases hs : (x / Ieee.double.signWeight % 2 == 1) <;> simp [Ieee.Datum.order, hs] at h
        · simp [Ieee.Datum.order] at h
  have hw : Ieee.double.signWeight = 9223372036854775808 := by decide
  rw [hw] at hr
  omega
end Go.Proofs.Ytoibgpmpngccjaa

namespace Go.Proofs.Ytoibgpmpngccjaa
open Go.RowKit

theorem read_bounds {x : Nat} {s : Bool} {m : Nat} {i : Int} (h : Ieee.single.read x = .number s m i) : m < 16777216 ∧ -149 ≤ i ∧ i ≤ 104 := by
  have hb : Ieee.single.binade = 8388608 := by decide
  have hi : Ieee.single.infRung = 2139095040 := by decide
  have hl : Ieee.single.leastPlace = -149 := by decide
  unfold Ieee.Format.read at h
  rw [hb, hi, hl] at h
  generalize x % Ieee.single.signWeight = q at h
  simp only at h
  split at h
  · injection h with _ h1 h2
    omega
  · split at h
    · injection h with _ h1 h2
      omega
    · split at h <;> cases h
theorem cut_zero (s : Bool) (n : Nat) : Ieee.Toward.even.cut s n 0 = n := by
  unfold Ieee.Toward.cut
  simp [Nat.mod_one]
theorem wide_fin {s : Bool} {m : Nat} {i : Int} (h : m < 16777216 ∧ -149 ≤ i ∧ i ≤ 104) : ((FloatKind.f64.decode (FloatKind.f64.encode (.number s m i))).isInfinity) = false := by
  obtain ⟨hm, hi1, hi2⟩ := h
  have hsw : Ieee.double.signWeight = 9223372036854775808 := by decide
  have hbin : Ieee.double.binade = 4503599627370496 := by decide
  have hinf : Ieee.double.infRung = 9218868437227405312 := by decide
  have hlp : Ieee.double.leastPlace = -1074 := by decide
  have hfb : Ieee.double.fractionBits = 52 := by decide
  have key : ∃ q, q < 9218868437227405312 ∧ Ieee.double.nearest s m i = Ieee.double.word s q := by
    unfold Ieee.Format.nearest
    split
    · exact ⟨0, by decide, rfl⟩
    · rename_i hm0
      have hlog : m.log2 ≤ 23 := by
        have := (Nat.log2_lt hm0 (k := 24)).2 (by omega)
        omega
      have hlog2 : m < 2 ^ (m.log2 + 1) := Nat.lt_log2_self
      generalize hL : m.log2 = L at *
      rw [hlp, hfb]
      obtain ⟨k, hk, hk2⟩ : ∃ k : Nat, max (i + (L : Nat) - (52 : Nat)) (-1074) = -1074 + (k : Int) ∧ k ≤ 1149 := ⟨(max (i + (L : Nat) - (52 : Nat)) (-1074) + 1074).toNat, by omega, by omega⟩
      rw [hk]
      simp only
      have e1 : (-1074 + (k : Int) - i).toNat = 0 := by omega
      rw [e1, cut_zero]
      have e2 : (-1074 + (k : Int) - -1074).toNat = k := by omega
      rw [e2]
      have e3 : (i - (-1074 + (k : Int))).toNat + L ≤ 52 := by omega
      generalize (i - (-1074 + (k : Int))).toNat = d at e3
      have hkept : m <<< d < 9007199254740992 := by
        rw [Nat.shiftLeft_eq]
        calc m * 2 ^ d < 2 ^ (L + 1) * 2 ^ d := Nat.mul_lt_mul_of_pos_right hlog2 (Nat.pow_pos (by omega))
          _ = 2 ^ (L + 1 + d) := by rw [← Nat.pow_add]
          _ ≤ 2 ^ 53 := Nat.pow_le_pow_right (by omega) (by omega)
          _ = 9007199254740992 := by decide
      refine ⟨_, ?_, rfl⟩
      rw [hbin, hinf]
      generalize m <<< d = z at hkept
      have h1 : k * 4503599627370496 ≤ 5174635971848699904 := Nat.le_trans (Nat.mul_le_mul_right _ hk2) (by decide)
      exact Nat.lt_of_le_of_lt (Nat.min_le_left _ _) (Nat.lt_of_le_of_lt (Nat.add_le_add h1 (Nat.le_of_lt hkept)) (by decide))
  obtain ⟨q, hq, hw⟩ := key
  show (Ieee.double.read (Ieee.double.nearest s m i)).isInfinity = false
  rw [hw]
  have hrd : ∃ a b c, Ieee.double.read (Ieee.double.word s q) = .number a b c := by
    have hr : Ieee.double.word s q % 9223372036854775808 = q := by
      unfold Ieee.Format.word
      rw [hsw]
      split <;> omega
    unfold Ieee.Format.read
    rw [hsw, hbin, hinf, hr]
    simp only
    split
    · exact ⟨_, _, _, rfl⟩
    · first | exact ⟨_, _, _, rfl⟩ | (rw [if_pos hq]; exact ⟨_, _, _, rfl⟩)
  obtain ⟨a, b, c, e⟩ := hrd
  rw [e]
  rfl
/-- A single number's wide form; of what is not a number, some such. -/
def WR (x r : Nat) : Prop := r < 2 ^ 64 ∧ (floatToFloatBits .f32 x .f64 = some r ∨ (floatToFloatBits .f32 x .f64 = none ∧ FloatKind.f64.format.order r r = none))
theorem nan64 (t : Nat) : FloatKind.f64.format.order ((t % 2) * 2 ^ 63 + 0x7ff0000000000000 + 1 + (t / 2) % (2 ^ 52 - 1)) ((t % 2) * 2 ^ 63 + 0x7ff0000000000000 + 1 + (t / 2) % (2 ^ 52 - 1)) = none ∧ (t % 2) * 2 ^ 63 + 0x7ff0000000000000 + 1 + (t / 2) % (2 ^ 52 - 1) < 2 ^ 64 := by
  have h2 : (t / 2) % (2 ^ 52 - 1) < 2 ^ 52 - 1 := Nat.mod_lt _ (by decide)
  generalize (t / 2) % (2 ^ 52 - 1) = q at h2
  have p1 : (2 : Nat) ^ 63 = 9223372036854775808 := by decide
  have p2 : (2 : Nat) ^ 52 - 1 = 4503599627370495 := by decide
  have p3 : (2 : Nat) ^ 64 = 18446744073709551616 := by decide
  rw [p1, p3]
  rw [p2] at h2
  obtain ⟨x, hx, hx2⟩ : ∃ x, t % 2 * 9223372036854775808 + 9218868437227405312 + 1 + q = x ∧ 9218868437227405312 < x % 9223372036854775808 := ⟨_, rfl, by omega⟩
  have hx3 : x < 18446744073709551616 := by omega
  rw [hx]
  refine ⟨?_, hx3⟩
  have hsw : Ieee.double.signWeight = 9223372036854775808 := by decide
  have hbin : Ieee.double.binade = 4503599627370496 := by decide
  have hinf : Ieee.double.infRung = 9218868437227405312 := by decide
  have hr : Ieee.double.read x = .nan (x / 9223372036854775808 % 2 == 1) (x % 9223372036854775808 - 9218868437227405312) := by
    unfold Ieee.Format.read
    rw [hsw, hbin, hinf]
    generalize x % 9223372036854775808 = z at hx2
    simp only
    rw [if_neg (by omega), if_neg (by omega), if_neg (by omega)]
  show (Ieee.double.read x).order (Ieee.double.read x) = none
  rw [hr]
  rfl
theorem bits_lt64 {x r : Nat} (h : floatToFloatBits .f32 x .f64 = some r) : r < 2 ^ 64 := by
  unfold floatToFloatBits at h
  rw [if_neg (by decide)] at h
  split at h
  · cases h
  · injection h with h
    rw [← h]
    exact Ieee.double.write_lt _
  · split at h
    · cases h
    · injection h with h
      rw [← h]
      exact Ieee.double.write_lt _
section
variable {P : Program}
theorem run_wide (src dst : TypeId) (x : Nat) (hs : (P.underlying src).isSome = true) (hd : P.underlying dst = some (.float .f64)) (w : World) : ∃ r m, (convert src dst (.float .f32 x)).run P w = .ok (.float .f64 r) (w.drewN m) ∧ WR x r := by
  cases h : floatToFloatBits .f32 x .f64 with
  | some r => exact ⟨r, 0, run_convert_float_float w src dst .f32 .f64 x r hs hd h, bits_lt64 h, .inl h⟩
  | none =>
    have hnan : ∃ s t, FloatKind.f32.decode x = .nan s t := by
      unfold floatToFloatBits at h
      rw [if_neg (by decide)] at h
      split at h
      · rename_i s t e
        exact ⟨s, t, e⟩
      · cases h
      · rename_i s m e he
        rw [wide_fin (read_bounds he)] at h
        cases h
    obtain ⟨s, t, e⟩ := hnan
    obtain ⟨u, hs'⟩ := Option.isSome_iff_exists.1 hs
    obtain ⟨n1, n2⟩ := nan64 (w.tape w.drawn (.nanConv .f64 x))
    refine ⟨_, 1, ?_, n2, .inr ⟨h, n1⟩⟩
    cases u <;> simp [convert, run_underlying hs', run_underlying hd, Conv.floatToFloat, e] <;> rfl
theorem run_wide_op {o : Oper} {src dst : TypeId} {xo : Operand} (hop : o.op = .convert src dst xo) (a : Act) (x : Nat) (hs : (P.underlying src).isSome = true) (hd : P.underlying dst = some (.float .f64)) (hx : a.eval xo = .float .f32 x) (w : World) :
    ∃ r m, (execOp a.eval o).run P w = .ok (.value (.float .f64 r)) (w.drewN m) ∧ WR x r := by
  obtain ⟨r, m, h1, h2⟩ := run_wide (P := P) src dst x hs hd w
  refine ⟨r, m, ?_, h2⟩
  unfold execOp
  rw [hop]
  simp [hx, h1]
theorem lo_wide {ops : Array Oper} {Q : Act → Prop} {rest : List Oper} {o : Oper} {a : Act} {w0 : World} (hgd : o.guard = none) (src dst : TypeId) (xo : Operand) (hop : o.op = .convert src dst xo)
    (x : Nat) (hs : (P.underlying src).isSome = true) (hd : P.underlying dst = some (.float .f64)) (hx : a.eval xo = .float .f32 x)
    (h : ∀ r, WR x r → wpLo P ops (fun w' => ∃ m, w' = w0.drewN m) Q rest (a.put o.dst (.float .f64 r))) :
    wpLo P ops (fun w' => ∃ m, w' = w0.drewN m) Q (o :: rest) a := by
  have hw : Region.wanted o (yielded ops a.tmps) = true := by unfold Region.wanted; rw [hgd]
  unfold wpLo
  rw [if_pos hw]
  obtain ⟨r0, m0, _, h2⟩ := run_wide_op (P := P) hop a x hs hd hx w0
  refine ⟨fun v => ∃ r, v = .float .f64 r ∧ WR x r, ⟨_, r0, rfl, h2⟩, ?_, ?_⟩
  · rintro _ ⟨m, rfl⟩
    obtain ⟨r, m1, k1, k2⟩ := run_wide_op (P := P) hop a x hs hd hx (w0.drewN m)
    unfold loAt
    rw [k1]
    exact ⟨⟨m + m1, World.drewN_drewN _ _ _⟩, r, rfl, k2⟩
  · rintro v ⟨r, rfl, k2⟩
    exact h r k2
end
/-- A floating number that is no not-a-number: none of its comparisons with itself fails. -/
theorem wide_same {x r r' : Nat} (h : WR x r) (h' : WR x r') : r' = r ∨ (FloatKind.f64.format.order r r = none ∧ FloatKind.f64.format.order r' r' = none) := by
  obtain ⟨_, h | h⟩ := h <;> obtain ⟨_, h' | h'⟩ := h'
  · rw [h] at h'
    injection h' with h'
    exact .inl h'.symm
  · rw [h] at h'
    cases h'.1
  · rw [h'] at h
    cases h.1
  · exact .inr ⟨h.2, h'.2⟩
end Go.Proofs.Ytoibgpmpngccjaa

namespace Go.Proofs.Ytoibgpmpngccjaa
open Go.RowKit

section
variable (x : Nat) (w : World)


end

theorem quo_zero (x : Nat) (h : x = 0 ∨ x = 9223372036854775808) : ∃ r, ∀ w : World, (binOp .quo 41 (.float .f64 4607182418800017408) (.float .f64 x)).run Try.prog w = .ok (.float .f64 r) w := by
  rcases h with rfl | rfl
  · exact ⟨_, fun w => run_float_arith w .quo _ .f64 _ _ 9218868437227405312 (by decide)⟩
  · exact ⟨_, fun w => run_float_arith w .quo _ .f64 _ _ 18442240474082181120 (by decide)⟩



end Go.Proofs.Ytoibgpmpngccjaa

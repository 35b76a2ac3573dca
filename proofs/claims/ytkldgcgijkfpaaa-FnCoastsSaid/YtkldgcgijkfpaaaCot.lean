/- Plain: what the law on coasts asks of kept points and of lengths. Conditions: as stated at each. -/
import Derived.Test.YtkldgcgijkfpaaaCor
namespace Go.Proofs.Ytkldgcgijkfpaaa
open Go.RowKit
open Num Quick

theorem Keep.len2 {n : Nat} {J : List Nat} (h : Keep n J) (hn : 2 ≤ n) : J.length + 2 ≤ n := by
  have := sorted_len J 1 (n - 1) h.sorted (fun j hj => ⟨h.lo j hj, by have := h.hi j hj; omega⟩)
  omega
theorem map_range (J : List Nat) (h : Nat → Value) : J.map h = (List.range J.length).map (fun i => h (J.getD i 0)) := by
  apply List.ext_getElem?
  intro i
  rw [List.getElem?_map, List.getElem?_map]
  by_cases c : i < J.length
  · rw [List.getElem?_range c, List.getElem?_eq_getElem c]
    simp [List.getD_eq_getElem?_getD, List.getElem?_eq_getElem c]
  · rw [List.getElem?_eq_none (by simpa using c), List.getElem?_eq_none (by simpa using c)]
    rfl
/-- The kept points, as indices that are looked for in order. -/
structure Kpt (n q : Nat) (ix : Nat → Nat) (Sn : Nat → Nat → Prop) : Prop where
  first : ix 0 = 0
  last : ix (q - 1) = n - 1
  lt : ∀ i, i < q → ix i < n
  zero : Sn 0 0
  hit : ∀ k p, Sn k p → p < q → Sn (k + 1) (p + 1)
  miss : ∀ k p, Sn k p → (p < q → ix p ≠ k) → Sn (k + 1) p
  all : ∀ p, Sn n p → p = q
  le : ∀ k p, Sn k p → p ≤ q
theorem Keep.kpt {n : Nat} {J : List Nat} (h : Keep n J) (hn : 2 ≤ n) (f : Nat → Nat × Nat) : ∃ ix Sn, Kpt n (J.length + 2) ix Sn ∧ ([0] ++ J ++ [n - 1]).map (fun j => cxv (f j)) = (List.range (J.length + 2)).map (fun i => cxv (f (ix i))) := by
  obtain ⟨hs, hlt⟩ := h.ends hn
  have hl : ([0] ++ J ++ [n - 1]).length = J.length + 2 := by simp
  refine ⟨fun i => ([0] ++ J ++ [n - 1]).getD i 0, Seen ([0] ++ J ++ [n - 1]), ⟨by simp, ?_, fun i hi => ?_, Seen.zero _, fun k p s hp => s.hit hs (by omega), fun k p s hm => s.miss hs (fun hp => hm (by omega)), fun p s => by rw [s.all hlt, hl], fun k p s => by rw [← hl]; exact s.1⟩, ?_⟩
  · show ([0] ++ J ++ [n - 1]).getD (J.length + 2 - 1) 0 = n - 1
    rw [show J.length + 2 - 1 = ([0] ++ J).length by simp, List.getD_eq_getElem?_getD, List.getElem?_append_right (Nat.le_refl _)]
    simp
  · show ([0] ++ J ++ [n - 1]).getD i 0 < n
    rw [List.getD_eq_getElem?_getD, List.getElem?_eq_getElem (by omega)]
    exact hlt _ (List.getElem_mem _)
  · rw [map_range, hl]
/-- Whether a coast is near enough is told by a number that is not less than nothing. -/
theorem near_ge {n : Nat} {w : Nat} (h : Gn 3 (n : Int) w) : (FloatKind.f32.format.order w 0 == some .gt || FloatKind.f32.format.order w 0 == some .eq) = true := by
  refine ge_cmp h.fin zero_fin.1 ?_
  have a := (h.order (Gn.zero 3))
  rw [zero_fin.2, h.val, show ((2 ^ 3 : Nat) : Rat) = 8 from rfl, show (((n : Int)) : Rat) = (n : Rat) from rfl]
  have : (0 : Rat) ≤ (n : Rat) := Rat.natCast_nonneg
  rw [Rat.div_def]
  exact Rat.mul_nonneg this (by decide +kernel)
theorem milli_ok : Fl .f32 981668463 ∧ (FloatKind.f32.format.order 981668463 0 == some .gt || FloatKind.f32.format.order 981668463 0 == some .eq) = true := ⟨fl_of _ (by decide +kernel), by decide +kernel⟩
theorem kilo_ok : Fl .f32 1148846080 ∧ (FloatKind.f32.format.order 1148846080 0 == some .gt || FloatKind.f32.format.order 1148846080 0 == some .eq) = true ∧ 1000 ≤ Num.fv .f32 1148846080 := ⟨fl_of _ (by decide +kernel), by decide +kernel, by unfold Num.fv val rv p2; decide +kernel⟩
theorem c8s : Fl .f32 1090519040 ∧ Num.fv .f32 1090519040 = ((2 ^ 3 : Nat) : Rat) := by
  refine ⟨?_, ?_⟩
  · show (1090519040 : Nat) % FloatKind.f32.format.signWeight < FloatKind.f32.format.infRung
    decide +kernel
  · unfold Num.fv val rv p2
    decide +kernel
/-- All that the law asks of the three lengths. -/
theorem lens_ok {P Q1 Q2 : Nat → Nat × Nat} {r1 r2 n q : Nat} (hn1 : 2 ≤ n) (hn : n ≤ 7) (hq : q = 2 * n - 1) (h1 : Bro P Q1 r1 2 n) (h2 : Bro P Q2 r2 2 n) (hE : ∀ i, i < n → Ew (P i)) (hr : Fl .f32 r2) (h0 : Num.fv .f32 r2 = 0) : ∃ X Y Z o t g d, qwide (lsum P n) = some X ∧ qwide (lsum Q2 q) = some Y ∧ qwide (lsum Q1 q) = some Z ∧ (∀ w : World, Calls Try.prog 11 #[.float .f64 X, .float .f64 Y] w fun e w' => e = .returned (.float .f64 g) ∧ w' = w) ∧
    floatBits .add .f64 4607182418800017408 X = some o ∧ floatBits .mul .f64 4562254508917369340 o = some t ∧ (FloatKind.f64.format.order g t == some .gt) = false ∧ floatBits .sub .f64 X 4562254508917369340 = some d ∧ (FloatKind.f64.format.order Z d == some .lt) = false := by
  subst hq
  have hP : ∀ i, i < n → Cb ((2 : Nat) : Rat) (P i) := fun i hi => (hE i hi).cb
  have LP := lsum_near (f := P) (n := n) (B := 2) (m := 6) (by omega) (by omega) (by omega) (by omega) hP
  have L1 := lsum_near (f := Q1) (n := 2 * n - 1) (B := 4) (m := 12) (by omega) (by omega) (by omega) (by omega) (fun i hi => h1.cb i hi)
  have L2 := lsum_near (f := Q2) (n := 2 * n - 1) (B := 4) (m := 12) (by omega) (by omega) (by omega) (by omega) (fun i hi => h2.cb i hi)
  have L100 : Num.fv .f32 (lsum P n) ≤ 100 := by
    have L := (lsum_ok (show (2 : Nat) ≤ 16 by omega) (show 3 * 2 * n ≤ 256 by omega) hP (n - 1) (by omega)).2.2.1
    rw [show n - 1 + 1 = n by omega] at L
    have k := Rat.natCast_le_natCast.2 (show 3 * 2 * (n - 1) ≤ 100 by omega)
    exact Rat.le_trans L k
  obtain ⟨X, Y, o, t, g, x1, y1, g1, o1, t1, c1⟩ := long_law LP.1 L2.1 LP.2.1 LP.2.2.1 (straight_ok hn1 hn h2 hE hr h0)
  obtain ⟨X', Z, d, x2, z1, d1, c2⟩ := rough_law LP.1 L1.1 LP.2.1 L100 (rough_ok hn1 hn h1 hP)
  obtain rfl : X = X' := Option.some.inj (x1.symm.trans x2)
  exact ⟨X, Y, Z, o, t, g, d, x1, y1, z1, g1, o1, t1, c1, d1, c2⟩
/-- Points that do not lie at one place are not too near. -/
theorem len_cases {f : Nat → Nat × Nat} {n : Nat} (hn1 : 2 ≤ n) (hn : n ≤ 7) (hE : ∀ i, i < n → Ew (f i)) : (FloatKind.f32.format.order (lsum f n) 0 == some .eq) = true ∨ ((FloatKind.f32.format.order (lsum f n) 0 == some .eq) = false ∧ 1 / 16 ≤ Num.fv .f32 (lsum f n)) := by
  have L := lsum_near (f := f) (n := n) (B := 2) (m := 6) (by omega) (by omega) (by omega) (by omega) (fun i hi => (hE i hi).cb)
  rcases len_or hn1 hn hE with h | h
  · left
    rw [cmp_eq' L.1 zero_fin.1 (by rw [h, zero_fin.2])]
    decide
  · right
    refine ⟨?_, h⟩
    obtain ⟨o, e, h1, h2, h3⟩ := order_fin FloatKind.f32.format L.1 zero_fin.1
    have : o = .gt := h3.2 (by show Num.fv .f32 0 < Num.fv .f32 (lsum f n); rw [zero_fin.2]; grind)
    rw [e, this]
    decide
end Go.Proofs.Ytkldgcgijkfpaaa

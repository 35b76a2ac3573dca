/- Plain: numbers of eighths. -/
import Derived.Test.YthncniomobfoeaaEu
import Derived.Test.YthncniomobfoeaaEa
namespace Go.Proofs.Ythncniomobfoeaa
open Go.RowKit
open Num Quick Circ

theorem ew_in {x : Int} (hx : x.natAbs ≤ 16) : Fl .f32 (ew x) ∧ InR (Num.fv .f32 (ew x)) 2 ∧ ew x < 4294967296 := by
  have g := (ew_ok hx).2
  refine ⟨g.fin, ?_, g.lt⟩
  rw [g.val]
  have hp : ((2 ^ 3 : Nat) : Rat) = 8 := rfl
  rw [hp]
  have a : (-16 : Rat) ≤ (x : Rat) := by
    have : (((-16 : Int)) : Rat) ≤ (x : Rat) := Rat.intCast_le_intCast.2 (by omega)
    exact this
  have b : (x : Rat) ≤ (16 : Rat) := by
    have : (x : Rat) ≤ (((16 : Int)) : Rat) := Rat.intCast_le_intCast.2 (by omega)
    exact this
  unfold InR
  constructor <;> grind
theorem ew_cb {x y : Int} (hx : x.natAbs ≤ 16) (hy : y.natAbs ≤ 16) : Cb ((2 : Nat) : Rat) (ew x, ew y) ∧ W32 (ew x, ew y) ∧ Num.fv .f32 (ew x) * Num.fv .f32 (ew x) + Num.fv .f32 (ew y) * Num.fv .f32 (ew y) ≤ 81 / 10 := by
  obtain ⟨a1, a2, a3⟩ := ew_in hx
  obtain ⟨b1, b2, b3⟩ := ew_in hy
  have m1 := prod_in a2 a2 (by decide)
  have m2 := prod_in b2 b2 (by decide)
  refine ⟨⟨a1, b1, a2, b2⟩, ⟨a3, b3⟩, ?_⟩
  unfold InR at m1 m2
  grind
theorem stays_cb {B C : Nat} {z : Nat × Nat} (h : Cb (B : Rat) z) (hBC : B ≤ C) : Cb (C : Rat) z := h.mono (Rat.natCast_le_natCast.2 hBC)
/-- How the law looks at the orbit: within the count nothing is out; at the count it is out, but where the count ends. -/
theorem cnt_ok (k m : Nat) {c z : Nat × Nat} (hk : k ≤ 3) (hc : Cb ((2 : Nat) : Rat) c) (hz : Cb ((110 : Nat) : Rat) z) (hw : W32 z) : cnt k c z m ≤ m ∧ (∀ i, i < cnt k c z m → out (orb k c z i) = false) ∧ (cnt k c z m < m → out (orb k c z (cnt k c z m)) = true) ∧ ∀ i, i ≤ cnt k c z m → Cb ((110 : Nat) : Rat) (orb k c z i) ∧ W32 (orb k c z i) := by
  obtain ⟨q1, q2, q3, q4⟩ := esc_ok (fun i => out (orb k c z i)) m 0
  have OB := orb_ok hk hc hz hw (fun i h => q3 i (Nat.zero_le _) h) 
  unfold cnt
  exact ⟨by omega, fun i h => q3 i (Nat.zero_le _) h, fun h => q4 (by omega), fun i h => OB i h⟩
theorem smooth_facts {s cn : Nat} (hs : Fl .f32 s) (h0 : 0 ≤ Num.fv .f32 s) (hi : InR (Num.fv .f32 s - (cn : Rat)) (15 / 4)) (hn : cn ≤ 24) : (FloatKind.f32.format.order s 0 == some .lt) = false ∧ ∃ y r, qwide s = some y ∧ (∀ w : World, Calls Try.prog 11 #[.float .f64 y, .float .f64 (floatOfInt .f64 (cn : Int))] w fun e w' => e = .returned (.float .f64 r) ∧ w' = w) ∧ (FloatKind.f64.format.order r 4616189618054758400 == some .gt) = false := by
  refine ⟨?_, ?_⟩
  · have z := Gn.zero 3
    have hz : Num.fv .f32 0 = 0 := by rw [z.val]; decide +kernel
    obtain ⟨o, o1, o2, o3, o4⟩ := order_fin FloatKind.f32.format hs z.fin
    rw [o1]
    cases o with
    | gt => decide
    | eq => decide
    | lt =>
      have : Num.fv .f32 s < Num.fv .f32 0 := o2.1 rfl
      rw [hz] at this
      exfalso
      grind
  · obtain ⟨y, y1, y2, y3, y4⟩ := fwide hs
    obtain ⟨f1, f2, f3⟩ := fint .f64 (cn : Int) (by omega)
    have e : ((cn : Int) : Rat) = (cn : Rat) := Rat.intCast_natCast cn
    rw [e] at f2
    obtain ⟨r, r1, r2⟩ := gap_w y2 f1 (by rw [y4, f2]; exact hi)
    exact ⟨y, r, y1, r1, r2⟩
end Go.Proofs.Ythncniomobfoeaa

/- Plain law with the walks' contracts: the words of a fit. Conditions: points as the reference draws them, and what a map makes of them. -/
import Derived.Test.YtbpgbplepebcjaaKgi
namespace Go.Proofs.Ytbpgbplepebcjaa
open Go.RowKit
open Num Quick

/-- The words of one point of a fit. -/
structure FitW (u m t o d e p : Nat × Nat) (r : Nat) : Prop where
  sd : ∀ w : World, Calls Try.prog 53 #[.complex .f32 u.1 u.2, .complex .f32 m.1 m.2] w fun x w' => x = .returned (.complex .f32 d.1 d.2) ∧ w' = w
  se : ∀ w : World, Calls Try.prog 53 #[.complex .f32 t.1 t.2, .complex .f32 o.1 o.2] w fun x w' => x = .returned (.complex .f32 e.1 e.2) ∧ w' = w
  sp : ∀ w : World, Calls Try.prog 48 #[.complex .f32 e.1 e.2, .complex .f32 d.1 (ng32 d.2)] w fun x w' => x = .returned (.complex .f32 p.1 p.2) ∧ w' = w
  sr : ∀ w : World, Calls Try.prog 51 #[.complex .f32 d.1 d.2] w fun x w' => x = .returned (.float .f32 r) ∧ w' = w
  d1 : FR .f32 (Num.fv .f32 u.1 - Num.fv .f32 m.1) d.1
  d2 : FR .f32 (Num.fv .f32 u.2 - Num.fv .f32 m.2) d.2
  e1 : FR .f32 (Num.fv .f32 t.1 - Num.fv .f32 o.1) e.1
  e2 : FR .f32 (Num.fv .f32 t.2 - Num.fv .f32 o.2) e.2
  p1 : FR .f32 (Num.fv .f32 e.1 * Num.fv .f32 d.1 + Num.fv .f32 e.2 * Num.fv .f32 d.2) p.1
  p2 : FR .f32 (Num.fv .f32 e.2 * Num.fv .f32 d.1 - Num.fv .f32 e.1 * Num.fv .f32 d.2) p.2
  rr : FR .f32 (Num.fv .f32 d.1 * Num.fv .f32 d.1 + Num.fv .f32 d.2 * Num.fv .f32 d.2) r
theorem top_of {x : Rat} {C : Int} (h : InR x (C : Rat)) (hC : C.natAbs ≤ 100000) : InR x top := by
  have h1 : ((C : Int) : Rat) ≤ ((100000 : Int) : Rat) := Rat.intCast_le_intCast.2 (by omega)
  have e : ((100000 : Int) : Rat) ≤ top := by decide +kernel
  unfold InR at *
  constructor <;> grind
theorem rnd_in {v : Rat} {w : Nat} {C : Int} (h : FR .f32 v w) (hv : InR v (C : Rat)) (hC : C.natAbs ≤ 100000) : InR (Num.fv .f32 w) (C : Rat) := by
  have a := h.le_int C (by omega) hv.1
  have b := h.ge_int (-C) (by omega) (by rw [Rat.intCast_neg]; exact hv.2)
  rw [Rat.intCast_neg] at b
  exact ⟨a, b⟩
theorem lt32 {v : Rat} {w : Nat} (h : FR .f32 v w) : w < 4294967296 := by
  have := h.lt
  have e : (2 : Nat) ^ FloatKind.f32.format.width = 4294967296 := by decide +kernel
  rwa [e] at this
theorem fit_words {u m t o : Nat × Nat} (u1 : Fl .f32 u.1) (u2 : Fl .f32 u.2) (m1 : Fl .f32 m.1) (m2 : Fl .f32 m.2) (t1 : Fl .f32 t.1) (t2 : Fl .f32 t.2) (o1 : Fl .f32 o.1) (o2 : Fl .f32 o.2)
    (iu1 : InR (Num.fv .f32 u.1) 2) (iu2 : InR (Num.fv .f32 u.2) 2) (im1 : InR (Num.fv .f32 m.1) 2) (im2 : InR (Num.fv .f32 m.2) 2) (it1 : InR (Num.fv .f32 t.1) 3) (it2 : InR (Num.fv .f32 t.2) 3) (io1 : InR (Num.fv .f32 o.1) 3) (io2 : InR (Num.fv .f32 o.2) 3) :
    ∃ d e p r, FitW u m t o d e p r := by
  have e4 : ((4 : Int) : Rat) = 4 := rfl
  have e6 : ((6 : Int) : Rat) = 6 := rfl
  have a1 : InR (Num.fv .f32 u.1 - Num.fv .f32 m.1) ((4 : Int) : Rat) := by rw [e4]; unfold InR at *; constructor <;> grind
  have a2 : InR (Num.fv .f32 u.2 - Num.fv .f32 m.2) ((4 : Int) : Rat) := by rw [e4]; unfold InR at *; constructor <;> grind
  have b1 : InR (Num.fv .f32 t.1 - Num.fv .f32 o.1) ((6 : Int) : Rat) := by rw [e6]; unfold InR at *; constructor <;> grind
  have b2 : InR (Num.fv .f32 t.2 - Num.fv .f32 o.2) ((6 : Int) : Rat) := by rw [e6]; unfold InR at *; constructor <;> grind
  obtain ⟨d1, d2, D, fd1, fd2⟩ := subtract_num u1 u2 m1 m2 (top_of a1 (by decide)) (top_of a2 (by decide))
  obtain ⟨e1, e2, E, fe1, fe2⟩ := subtract_num t1 t2 o1 o2 (top_of b1 (by decide)) (top_of b2 (by decide))
  have id1 := rnd_in fd1 a1 (by decide)
  have id2 := rnd_in fd2 a2 (by decide)
  have ie1 := rnd_in fe1 b1 (by decide)
  have ie2 := rnd_in fe2 b2 (by decide)
  have m4 : ((4 : Int) : Rat) ≤ mid := by decide +kernel
  have m6 : ((6 : Int) : Rat) ≤ mid := by decide +kernel
  obtain ⟨n1, n2, n3⟩ := ng32_num fd2.fin (lt32 fd2)
  obtain ⟨p, q, PC, fp, fq⟩ := mul_num fe1.fin fe2.fin fd1.fin n1 (in_mono ie1 m6) (in_mono ie2 m6) (in_mono id1 m4) (in_mono (by rw [n2]; unfold InR at *; constructor <;> grind) m4)
  obtain ⟨r, RC, fr⟩ := powerOf_num fd1.fin fd2.fin (in_mono id1 m4) (in_mono id2 m4)
  rw [n2] at fp fq
  refine ⟨(d1, d2), (e1, e2), (p, q), r, D, E, PC, RC, fd1, fd2, fe1, fe2, ?_, ?_, fr⟩
  · have e : Num.fv .f32 e1 * Num.fv .f32 d1 - Num.fv .f32 e2 * -Num.fv .f32 d2 = Num.fv .f32 e1 * Num.fv .f32 d1 + Num.fv .f32 e2 * Num.fv .f32 d2 := by grind
    rw [← e]; exact fp
  · have e : Num.fv .f32 e1 * -Num.fv .f32 d2 + Num.fv .f32 e2 * Num.fv .f32 d1 = Num.fv .f32 e2 * Num.fv .f32 d1 - Num.fv .f32 e1 * Num.fv .f32 d2 := by grind
    rw [← e]; exact fq
/-- The bounds that a step of the sums asks for. -/
theorem fit_near {u m t o d e p : Nat × Nat} {r : Nat} (h : FitW u m t o d e p r) {mx my ox oy dx dy ex ey : Rat} (iu1 : InR (Num.fv .f32 u.1) 2) (iu2 : InR (Num.fv .f32 u.2) 2) (im1 : InR (Num.fv .f32 m.1) 2) (im2 : InR (Num.fv .f32 m.2) 2) (it1 : InR (Num.fv .f32 t.1) 3) (it2 : InR (Num.fv .f32 t.2) 3) (io1 : InR (Num.fv .f32 o.1) 3) (io2 : InR (Num.fv .f32 o.2) 3)
    (hm1 : InR (Num.fv .f32 m.1 - mx) (1 / 8388608)) (hm2 : InR (Num.fv .f32 m.2 - my) (1 / 8388608)) (ho1 : InR (Num.fv .f32 o.1 - ox) (1 / 4194304)) (ho2 : InR (Num.fv .f32 o.2 - oy) (1 / 4194304))
    (hdx : Num.fv .f32 u.1 - mx = dx) (hdy : Num.fv .f32 u.2 - my = dy) (hex : Num.fv .f32 t.1 - ox = ex) (hey : Num.fv .f32 t.2 - oy = ey) :
    InR (Num.fv .f32 d.1 - dx) fa0 ∧ InR (Num.fv .f32 d.2 - dy) fa0 ∧ InR (Num.fv .f32 e.1 - ex) fb0 ∧ InR (Num.fv .f32 e.2 - ey) fb0 := by
  have a := near4 h.d1 (by unfold InR at *; constructor <;> grind)
  have b := near4 h.d2 (by unfold InR at *; constructor <;> grind)
  have c := near8' h.e1 (by unfold InR at *; constructor <;> grind)
  have d' := near8' h.e2 (by unfold InR at *; constructor <;> grind)
  have fa : fa0 = 1 / 4194304 + 1 / 8388608 := by decide +kernel
  have fb : fb0 = 1 / 2097152 + 1 / 4194304 := by decide +kernel
  rw [fa, fb]
  unfold InR at *
  refine ⟨⟨?_, ?_⟩, ⟨?_, ?_⟩, ⟨?_, ?_⟩, ⟨?_, ?_⟩⟩ <;> grind
/-- The sums stay of middling size. -/
theorem FitS.mid {ta tb S : Rat} {F : Int} {k x y b : Nat} (hF1 : -2 ≤ F) (hF2 : F ≤ 4) (hta : InR ta (1 / 2)) (htb : InR tb (1 / 2)) (hS : 0 ≤ S) (hS2 : S ≤ p2 F * p2 F) (hk : k ≤ 7) (h : FitS ta tb (p2 F) S k x y b) :
    InR (Num.fv .f32 x) 200 ∧ InR (Num.fv .f32 y) 200 ∧ InR (Num.fv .f32 b) 300 := by
  have lo := R_lo hF1
  have hi := R_hi hF2
  have sq := R_sq hF1 hF2
  have q0 : (0 : Rat) ≤ 1 / 2 := by decide +kernel
  have t1 := in_prod hta (show InR S (p2 F * p2 F) by unfold InR; constructor <;> grind) q0
  have t2 := in_prod htb (show InR S (p2 F * p2 F) by unfold InR; constructor <;> grind) q0
  have hkq : (((k : Nat) : Int) : Rat) ≤ ((7 : Int) : Rat) := Rat.intCast_le_intCast.2 (by omega)
  have e7 : ((7 : Int) : Rat) = 7 := rfl
  rw [e7] at hkq
  have hk0 : ((0 : Int) : Rat) ≤ (((k : Nat) : Int) : Rat) := Rat.intCast_le_intCast.2 (by omega)
  have e0 : ((0 : Int) : Rat) = 0 := rfl
  rw [e0] at hk0
  have m1 := Rat.mul_nonneg (show 0 ≤ 7 - (((k : Nat) : Int) : Rat) by grind) (show 0 ≤ p2 F by grind)
  obtain ⟨_, _, _, ix, iy, ib⟩ := h
  unfold InR at *
  refine ⟨⟨?_, ?_⟩, ⟨?_, ?_⟩, ⟨?_, ?_⟩⟩ <;> grind
theorem FitW.mid {u m t o d e p : Nat × Nat} {r : Nat} (h : FitW u m t o d e p r) (iu1 : InR (Num.fv .f32 u.1) 2) (iu2 : InR (Num.fv .f32 u.2) 2) (im1 : InR (Num.fv .f32 m.1) 2) (im2 : InR (Num.fv .f32 m.2) 2) (it1 : InR (Num.fv .f32 t.1) 3) (it2 : InR (Num.fv .f32 t.2) 3) (io1 : InR (Num.fv .f32 o.1) 3) (io2 : InR (Num.fv .f32 o.2) 3) :
    InR (Num.fv .f32 p.1) 100 ∧ InR (Num.fv .f32 p.2) 100 ∧ InR (Num.fv .f32 r) 100 := by
  have e4 : ((4 : Int) : Rat) = 4 := rfl
  have e6 : ((6 : Int) : Rat) = 6 := rfl
  have e100 : ((100 : Int) : Rat) = 100 := rfl
  have id1 := rnd_in (C := 4) h.d1 (by rw [e4]; unfold InR at *; constructor <;> grind) (by decide)
  have id2 := rnd_in (C := 4) h.d2 (by rw [e4]; unfold InR at *; constructor <;> grind) (by decide)
  have ie1 := rnd_in (C := 6) h.e1 (by rw [e6]; unfold InR at *; constructor <;> grind) (by decide)
  have ie2 := rnd_in (C := 6) h.e2 (by rw [e6]; unfold InR at *; constructor <;> grind) (by decide)
  rw [e4] at id1 id2
  rw [e6] at ie1 ie2
  have q6 : (0 : Rat) ≤ 6 := by decide +kernel
  have q4 : (0 : Rat) ≤ 4 := by decide +kernel
  have a := in_prod ie1 id1 q6
  have b := in_prod ie2 id2 q6
  have c := in_prod ie2 id1 q6
  have d' := in_prod ie1 id2 q6
  have x1 := in_prod id1 id1 q4
  have x2 := in_prod id2 id2 q4
  have r1 := rnd_in (C := 100) h.p1 (by rw [e100]; unfold InR at *; constructor <;> grind) (by decide)
  have r2 := rnd_in (C := 100) h.p2 (by rw [e100]; unfold InR at *; constructor <;> grind) (by decide)
  have r3 := rnd_in (C := 100) h.rr (by rw [e100]; unfold InR at *; constructor <;> grind) (by decide)
  exact ⟨r1, r2, r3⟩
end Go.Proofs.Ytbpgbplepebcjaa

/- Plain law with the walks' contracts: words of drawn maps are exact maps on grids. -/
import Derived.Test.YtbpgbplepebcjaaMu
namespace Go.Proofs.Ytbpgbplepebcjaa
open Go.RowKit
open Num Quick

/-- What a map makes of a pair of numbers. -/
noncomputable def apR (x : Sm) (p : Rat × Rat) : Rat × Rat :=
  (Num.fv .f32 x.a * p.1 - Num.fv .f32 x.b * (if x.fl then -p.2 else p.2) + Num.fv .f32 x.c, Num.fv .f32 x.a * (if x.fl then -p.2 else p.2) + Num.fv .f32 x.b * p.1 + Num.fv .f32 x.d)
noncomputable def foldR (X : List Sm) (p : Rat × Rat) : Rat × Rat := X.foldr apR p
/-- A map that m drawn ones make together. -/
structure Cp (N m : Nat) (x : Sm) : Prop where
  a : GF (3 * m) (4 * 8 ^ (m - 1)) x.a
  b : GF (3 * m) (4 * 8 ^ (m - 1)) x.b
  c : GF (3 * m - 1) (4 * m * 8 ^ (m - 1)) x.c
  d : GF (3 * m - 1) (4 * m * 8 ^ (m - 1)) x.d
  s : GF (2 * m) (4 ^ m) x.s
  ab : Num.fv .f32 x.a * Num.fv .f32 x.a + Num.fv .f32 x.b * Num.fv .f32 x.b ≤ 1 / 2
  ab0 : 0 ≤ Num.fv .f32 x.a * Num.fv .f32 x.a + Num.fv .f32 x.b * Num.fv .f32 x.b
  s0 : 0 ≤ Num.fv .f32 x.s
  s1 : Num.fv .f32 x.s ≤ 1
theorem sq_nn (x : Rat) : 0 ≤ x * x := by
  rcases (Rat.le_total : 0 ≤ x ∨ x ≤ 0) with c | c
  · exact Rat.mul_nonneg c c
  · have := Rat.mul_nonneg (show 0 ≤ -x by grind) (show 0 ≤ -x by grind)
    grind
theorem Sm.ok.cp {N : Nat} {x : Sm} (hx : x.ok N) (hN : 1 ≤ N) : Cp N 1 x := by
  have o := hx.okSmall hN
  refine ⟨hx.a, hx.b, hx.c, hx.d, hx.s, ?_, ?_, o.s0, o.s1⟩
  · have ha := half_of hx.a
    have hb := half_of hx.b
    have p1 := prod_in ha ha (by decide +kernel)
    have p2' := prod_in hb hb (by decide +kernel)
    have e : (1 : Rat) / 2 * (1 / 2) = 1 / 4 := by decide +kernel
    rw [e] at p1 p2'
    unfold InR at *; grind
  · have := sq_nn (Num.fv .f32 x.a)
    have := sq_nn (Num.fv .f32 x.b)
    grind
theorem Cp.okSmall {N m : Nat} {x : Sm} (h : Cp N m x) (hm : m = 1 ∨ m = 2 ∨ m = 3) : OkSmall x.a x.b x.c x.d x.s := by
  refine ⟨h.a.fin, h.b.fin, h.c.fin, h.d.fin, h.s.fin, ?_, ?_, ?_, h.s0, h.s1⟩
  · have := h.ab
    have e : (1 : Rat) / 2 ≤ 9 / 16 := by decide +kernel
    grind
  · rcases hm with rfl | rfl | rfl <;> exact h.c.low (by decide)
  · rcases hm with rfl | rfl | rfl <;> exact h.d.low (by decide)
set_option maxHeartbeats 1000000 in
theorem cp_join {N m : Nat} {x o : Sm} (hN : 1 ≤ N) (hx : x.ok N) (ho : Cp N m o) (hm : m = 1 ∨ m = 2) :
    ∃ r : Sm, Cp N (m + 1) r ∧ (∀ w : World, Calls Try.prog 12 #[smallV x.a x.b x.c x.d x.fl x.s, smallV o.a o.b o.c o.d o.fl o.s] w fun e w' => e = .returned (.tuple #[smallV r.a r.b r.c r.d r.fl r.s, .bool true]) ∧ Below w.heap.size w w') ∧
      (∀ p, apR r p = apR x (apR o p)) := by
  have ox := hx.okSmall hN
  have oo := ho.okSmall (by omega)
  have cx := hx.cp hN
  have hyf := ho.b.flip x.fl
  have J : ∃ P Q, (∀ w : World, Calls Try.prog 48 #[.complex .f32 x.a x.b, .complex .f32 o.a (flipN x.fl o.b)] w fun e w' => e = .returned (.complex .f32 P Q) ∧ w' = w) ∧ GF (3 * (m + 1)) (4 * 8 ^ m) P ∧ GF (3 * (m + 1)) (4 * 8 ^ m) Q ∧
      Num.fv .f32 P = Num.fv .f32 x.a * Num.fv .f32 o.a - Num.fv .f32 x.b * (if x.fl then -Num.fv .f32 o.b else Num.fv .f32 o.b) ∧ Num.fv .f32 Q = Num.fv .f32 x.a * (if x.fl then -Num.fv .f32 o.b else Num.fv .f32 o.b) + Num.fv .f32 x.b * Num.fv .f32 o.a := by
    rcases hm with rfl | rfl
    · obtain ⟨P, Q, J1, j1, j2, j3, j4⟩ := mul_exact hx.a hx.b ho.a hyf.1 (by decide) (by decide) (by decide) (by decide)
      rw [hyf.2] at j3 j4
      exact ⟨P, Q, J1, j1, j2, j3, j4⟩
    · obtain ⟨P, Q, J1, j1, j2, j3, j4⟩ := mul_exact hx.a hx.b ho.a hyf.1 (by decide) (by decide) (by decide) (by decide)
      rw [hyf.2] at j3 j4
      exact ⟨P, Q, J1, j1, j2, j3, j4⟩
  obtain ⟨P, Q, J1, j1, j2, j3, j4⟩ := J
  have U : ∃ u v, (∀ w : World, Calls Try.prog 45 #[smallV x.a x.b x.c x.d x.fl x.s, .complex .f32 o.c o.d] w fun e w' => e = .returned (.complex .f32 u v) ∧ Below w.heap.size w w') ∧ GF (3 * (m + 1) - 1) (4 * (m + 1 : Nat) * 8 ^ m) u ∧ GF (3 * (m + 1) - 1) (4 * (m + 1 : Nat) * 8 ^ m) v ∧
      (Num.fv .f32 u, Num.fv .f32 v) = apR x (Num.fv .f32 o.c, Num.fv .f32 o.d) := by
    rcases hm with rfl | rfl
    · obtain ⟨U, V, J2, u1, u2, u3, u4⟩ := maps_exact (s := x.s) (D := 32) (E := 64) (j := 3) x.fl hx.a hx.b hx.c hx.d ho.c ho.d (by decide) (by decide) rfl (by decide) (by decide) (by decide) (by decide) (by decide) (by decide)
      exact ⟨U, V, J2, u1, u2, by rw [u3, u4]; rfl⟩
    · obtain ⟨U, V, J2, u1, u2, u3, u4⟩ := maps_exact (s := x.s) (D := 256) (E := 768) (j := 6) x.fl hx.a hx.b hx.c hx.d ho.c ho.d (by decide) (by decide) rfl (by decide) (by decide) (by decide) (by decide) (by decide) (by decide)
      exact ⟨U, V, J2, u1, u2, by rw [u3, u4]; rfl⟩
  obtain ⟨u, v, J2, u1, u2, u3⟩ := U
  have gs := hx.s.gr.mul ho.s.gr
  have S : ∃ X, floatBits .mul .f32 x.s o.s = some X ∧ GF (2 * (m + 1)) (4 ^ (m + 1)) X ∧ Num.fv .f32 X = Num.fv .f32 x.s * Num.fv .f32 o.s := by
    rcases hm with rfl | rfl
    · have is := in_top (in_lowM (gs.bound (C := 1000) (by decide)))
      obtain ⟨X, x1, x2⟩ := fmul hx.s.fin ho.s.fin is.1 is.2
      have x3 := FR.gf x2 gs (by decide) (by decide)
      exact ⟨X, x1, x3.1, x3.2⟩
    · have is := in_top (in_lowM (gs.bound (C := 1000) (by decide)))
      obtain ⟨X, x1, x2⟩ := fmul hx.s.fin ho.s.fin is.1 is.2
      have x3 := FR.gf x2 gs (by decide) (by decide)
      exact ⟨X, x1, x3.1, x3.2⟩
  obtain ⟨X, x1, x2, x3⟩ := S
  have e2 : Num.fv .f32 P * Num.fv .f32 P + Num.fv .f32 Q * Num.fv .f32 Q = (Num.fv .f32 x.a * Num.fv .f32 x.a + Num.fv .f32 x.b * Num.fv .f32 x.b) * (Num.fv .f32 o.a * Num.fv .f32 o.a + Num.fv .f32 o.b * Num.fv .f32 o.b) := by
    rw [j3, j4]
    cases x.fl <;> simp <;> grind
  have nn := Rat.mul_nonneg cx.ab0 ho.ab0
  have nn2 := Rat.mul_le_mul_of_nonneg_right cx.ab ho.ab0
  have ab' := ho.ab
  have ab0' := ho.ab0
  have hc : Cp N (m + 1) ⟨P, Q, u, v, x.fl != o.fl, X⟩ := by
    refine ⟨j1, j2, u1, u2, x2, ?_, ?_, ?_, ?_⟩
    · show Num.fv .f32 P * Num.fv .f32 P + Num.fv .f32 Q * Num.fv .f32 Q ≤ 1 / 2
      rw [e2]; grind
    · show 0 ≤ Num.fv .f32 P * Num.fv .f32 P + Num.fv .f32 Q * Num.fv .f32 Q
      rw [e2]; exact nn
    · show 0 ≤ Num.fv .f32 X
      rw [x3]; exact Rat.mul_nonneg ox.s0 ho.s0
    · show Num.fv .f32 X ≤ 1
      rw [x3]
      have := Rat.mul_le_mul_of_nonneg_left ho.s1 ox.s0
      have := ox.s1
      grind
  refine ⟨⟨P, Q, u, v, x.fl != o.fl, X⟩, hc, fun w => join_w x.fl o.fl ox oo J1 J2 x1 (hc.okSmall (by omega)) w, fun p => ?_⟩
  unfold apR at u3 ⊢
  injection u3 with u3 u4
  simp only at u3 u4 ⊢
  rw [j3, j4, u3, u4]
  cases x.fl <;> cases o.fl <;> simp <;> constructor <;> grind
/-- A point to which m drawn maps lead a drawn one. -/
structure Pl (m : Nat) (z : Nat × Nat) : Prop where
  x : GF (3 * m + 2) (8 ^ m * (8 + 4 * m)) z.1
  y : GF (3 * m + 2) (8 ^ m * (8 + 4 * m)) z.2
noncomputable def ptR (z : Nat × Nat) : Rat × Rat := (Num.fv .f32 z.1, Num.fv .f32 z.2)
theorem PtOk.pl {z : Nat × Nat} (h : PtOk z) : Pl 0 z := ⟨h.1, h.2⟩
theorem Pl.low {m : Nat} {z : Nat × Nat} (h : Pl m z) (hm : m ≤ 3) : InR (Num.fv .f32 z.1) 1000 ∧ InR (Num.fv .f32 z.2) 1000 := by
  rcases (show m = 0 ∨ m = 1 ∨ m = 2 ∨ m = 3 by omega) with rfl | rfl | rfl | rfl <;> exact ⟨h.x.low (by decide), h.y.low (by decide)⟩
theorem pl_step {N m : Nat} {x : Sm} {z : Nat × Nat} (hx : x.ok N) (hz : Pl m z) (hm : m ≤ 2) :
    ∃ z' : Nat × Nat, Pl (m + 1) z' ∧ (∀ w : World, Calls Try.prog 45 #[smallV x.a x.b x.c x.d x.fl x.s, .complex .f32 z.1 z.2] w fun e w' => e = .returned (.complex .f32 z'.1 z'.2) ∧ Below w.heap.size w w') ∧ ptR z' = apR x (ptR z) := by
  rcases (show m = 0 ∨ m = 1 ∨ m = 2 by omega) with rfl | rfl | rfl
  · obtain ⟨u, v, J2, u1, u2, u3, u4⟩ := maps_exact (s := x.s) (D := 32) (E := 96) (j := 3) x.fl hx.a hx.b hx.c hx.d hz.x hz.y (by decide) (by decide) rfl (by decide) (by decide) (by decide) (by decide) (by decide) (by decide)
    exact ⟨(u, v), ⟨u1, u2⟩, J2, by show (Num.fv .f32 u, Num.fv .f32 v) = _; rw [u3, u4]; rfl⟩
  · obtain ⟨u, v, J2, u1, u2, u3, u4⟩ := maps_exact (s := x.s) (D := 256) (E := 1024) (j := 6) x.fl hx.a hx.b hx.c hx.d hz.x hz.y (by decide) (by decide) rfl (by decide) (by decide) (by decide) (by decide) (by decide) (by decide)
    exact ⟨(u, v), ⟨u1, u2⟩, J2, by show (Num.fv .f32 u, Num.fv .f32 v) = _; rw [u3, u4]; rfl⟩
  · obtain ⟨u, v, J2, u1, u2, u3, u4⟩ := maps_exact (s := x.s) (D := 2048) (E := 10240) (j := 9) x.fl hx.a hx.b hx.c hx.d hz.x hz.y (by decide) (by decide) rfl (by decide) (by decide) (by decide) (by decide) (by decide) (by decide)
    exact ⟨(u, v), ⟨u1, u2⟩, J2, by show (Num.fv .f32 u, Num.fv .f32 v) = _; rw [u3, u4]; rfl⟩
theorem cp_mapSmall {N m : Nat} {o : Sm} {z : Nat × Nat} (ho : Cp N m o) (hz : PtOk z) (hm : m = 1 ∨ m = 2 ∨ m = 3) :
    ∃ z' : Nat × Nat, Fl .f32 z'.1 ∧ Fl .f32 z'.2 ∧ (∀ w : World, Calls Try.prog 10 #[smallV o.a o.b o.c o.d o.fl o.s, .complex .f32 z.1 z.2] w fun e w' => e = .returned (.tuple #[.complex .f32 z'.1 z'.2, .bool true]) ∧ Below w.heap.size w w') ∧ ptR z' = apR o (ptR z) := by
  have oo := ho.okSmall hm
  have H : ∃ u v, (∀ w : World, Calls Try.prog 45 #[smallV o.a o.b o.c o.d o.fl o.s, .complex .f32 z.1 z.2] w fun e w' => e = .returned (.complex .f32 u v) ∧ Below w.heap.size w w') ∧ Fl .f32 u ∧ Fl .f32 v ∧ (Num.fv .f32 u, Num.fv .f32 v) = apR o (ptR z) := by
    rcases hm with rfl | rfl | rfl
    · obtain ⟨u, v, J2, u1, u2, u3, u4⟩ := maps_exact (s := o.s) (D := 32) (E := 96) (j := 3) o.fl ho.a ho.b ho.c ho.d hz.1 hz.2 (by decide) (by decide) (by decide) (by decide) (by decide) (by decide) (by decide) (by decide) (by decide)
      exact ⟨u, v, J2, u1.fin, u2.fin, by rw [u3, u4]; rfl⟩
    · obtain ⟨u, v, J2, u1, u2, u3, u4⟩ := maps_exact (s := o.s) (D := 512) (E := 1024) (j := 3) o.fl ho.a ho.b ho.c ho.d hz.1 hz.2 (by decide) (by decide) (by decide) (by decide) (by decide) (by decide) (by decide) (by decide) (by decide)
      exact ⟨u, v, J2, u1.fin, u2.fin, by rw [u3, u4]; rfl⟩
    · obtain ⟨u, v, J2, u1, u2, u3, u4⟩ := maps_exact (s := o.s) (D := 6144) (E := 10240) (j := 3) o.fl ho.a ho.b ho.c ho.d hz.1 hz.2 (by decide) (by decide) (by decide) (by decide) (by decide) (by decide) (by decide) (by decide) (by decide)
      exact ⟨u, v, J2, u1.fin, u2.fin, by rw [u3, u4]; rfl⟩
  obtain ⟨u, v, M, fu, fv', e⟩ := H
  exact ⟨(u, v), fu, fv', fun w => mapSmall_w o.fl oo hz.1.fin hz.2.fin (hz.1.low (by decide)) (hz.2.low (by decide)) M fu fv' w, e⟩
/-- Shares of words: exact powers of two. -/
structure Sh (N m : Nat) (s : Nat) : Prop where
  g : GF (2 * m) (4 ^ m) s
  v : Num.fv .f32 s * ((N ^ m : Nat) : Rat) = 1
theorem sh_step {N m s : Nat} {x : Sm} (hx : x.ok N) (hs : Sh N m s) (hm : m ≤ 2) : ∃ s', floatBits .mul .f32 s x.s = some s' ∧ Sh N (m + 1) s' := by
  have gs := hs.g.gr.mul hx.s.gr
  have hv := hs.v
  have hv2 := hx.s1
  have S : ∃ X, floatBits .mul .f32 s x.s = some X ∧ GF (2 * (m + 1)) (4 ^ (m + 1)) X ∧ Num.fv .f32 X = Num.fv .f32 s * Num.fv .f32 x.s := by
    rcases (show m = 0 ∨ m = 1 ∨ m = 2 by omega) with rfl | rfl | rfl
    · have is := in_top (in_lowM (gs.bound (C := 1000) (by decide)))
      obtain ⟨X, x1, x2⟩ := fmul hs.g.fin hx.s.fin is.1 is.2
      have x3 := FR.gf x2 gs (by decide) (by decide)
      exact ⟨X, x1, x3.1, x3.2⟩
    · have is := in_top (in_lowM (gs.bound (C := 1000) (by decide)))
      obtain ⟨X, x1, x2⟩ := fmul hs.g.fin hx.s.fin is.1 is.2
      have x3 := FR.gf x2 gs (by decide) (by decide)
      exact ⟨X, x1, x3.1, x3.2⟩
    · have is := in_top (in_lowM (gs.bound (C := 1000) (by decide)))
      obtain ⟨X, x1, x2⟩ := fmul hs.g.fin hx.s.fin is.1 is.2
      have x3 := FR.gf x2 gs (by decide) (by decide)
      exact ⟨X, x1, x3.1, x3.2⟩
  obtain ⟨X, x1, x2, x3⟩ := S
  refine ⟨X, x1, x2, ?_⟩
  rw [x3, Nat.pow_succ, Rat.natCast_mul]
  generalize ((N ^ m : Nat) : Rat) = q at *
  grind
theorem sh_start (N : Nat) : Sh N 0 1065353216 := by
  refine ⟨⟨c1.1, by decide, ?_⟩, ?_⟩
  · rw [c1.2]
    exact ⟨1, by decide +kernel, by decide, by decide⟩
  · rw [c1.2]; simp
end Go.Proofs.Ytbpgbplepebcjaa

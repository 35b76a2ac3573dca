/- Plain law with the walks' contracts: what a fit gives. Conditions: points as the reference draws them, spread, and what a map makes of them. -/
import Derived.Test.YtbpgbplepebcjaaKgl
namespace Go.Proofs.Ytbpgbplepebcjaa
open Go.RowKit
open Num Quick

/-- What the fit leads to. -/
structure FitE (x : Sm) (P : List (Nat × Nat)) (n : Nat) (m o : Nat × Nat) (a b c ta tb s1 s2 : Nat) (g : Nat × Nat) : Prop where
  pos : (FloatKind.f32.format.order c 0 == some .gt) = true
  qu : ∀ w : World, Calls Try.prog 52 #[.complex .f32 a b, .complex .f32 c 0] w fun e w' => e = .returned (.complex .f32 ta tb) ∧ w' = w
  mu : ∀ w : World, Calls Try.prog 48 #[.complex .f32 ta tb, .complex .f32 m.1 m.2] w fun e w' => e = .returned (.complex .f32 g.1 g.2) ∧ w' = w
  su : ∀ w : World, Calls Try.prog 53 #[.complex .f32 o.1 o.2, .complex .f32 g.1 g.2] w fun e w' => e = .returned (.complex .f32 s1 s2) ∧ w' = w
  ok : OkSmall ta tb s1 s2 1065353216
  ia : InR (Num.fv .f32 ta - Num.fv .f32 x.a) (1 / 500)
  ib : InR (Num.fv .f32 tb - Num.fv .f32 x.b) (1 / 500)
  ic : InR (Num.fv .f32 s1 - Num.fv .f32 x.c) (1 / 200)
  id : InR (Num.fv .f32 s2 - Num.fv .f32 x.d) (1 / 200)
  miss : ∀ i < n, ∃ k q : Nat × Nat, ∃ l : Nat, (∀ w : World, Calls Try.prog 45 #[smallV ta tb s1 s2 x.fl 1065353216, .complex .f32 (P.getD i (0, 0)).1 (P.getD i (0, 0)).2] w fun e w' => e = .returned (.complex .f32 k.1 k.2) ∧ Below w.heap.size w w') ∧
    (∀ w : World, Calls Try.prog 53 #[.complex .f32 k.1 k.2, .complex .f32 ((P.map (mpP x)).getD i (0, 0)).1 ((P.map (mpP x)).getD i (0, 0)).2] w fun e w' => e = .returned (.complex .f32 q.1 q.2) ∧ w' = w) ∧ LongW q.1 q.2 l ∧ Num.fv .f32 l ≤ 63 / 65536
theorem long_63 {q1 q2 l : Nat} (h : LongW q1 q2 l) (i1 : InR (Num.fv .f32 q1) (4142 / 8388608)) (i2 : InR (Num.fv .f32 q2) (4142 / 8388608)) : Num.fv .f32 l ≤ 63 / 65536 := by
  have r := rep_frac .f32 63 16 (by decide) (by decide)
  have e : ((63 : Int) : Rat) / ((2 ^ 16 : Nat) : Rat) = 63 / 65536 := by decide +kernel
  rw [e] at r
  have a := abs_sq i1.1 i1.2
  have b := abs_sq i2.1 i2.2
  have c : (4142 : Rat) / 8388608 * (4142 / 8388608) + 4142 / 8388608 * (4142 / 8388608) ≤ 63 / 65536 * (63 / 65536) := by decide +kernel
  exact h.root.le _ r (by decide +kernel) (by grind)
set_option maxHeartbeats 2000000 in
theorem fit_end {N : Nat} {x : Sm} (hx : x.ok N) {P : List (Nat × Nat)} {n : Nat} (hl : P.length = n) (hn : 1 ≤ n) (hn2 : n ≤ 7) (hP : ∀ p ∈ P, PtOk p) {m o : Nat × Nat}
    (hM : MidW (midR (fst_ (P.map (cjP x.fl))) n) (midR (snd_ (P.map (cjP x.fl))) n) (midR (fst_ (P.map (mpP x))) n) (midR (snd_ (P.map (mpP x))) n) m o) {F : Int} (F1 : -2 ≤ F) (F2 : F ≤ 4)
    (F3 : p2 F * p2 F / 4 ≤ sprR (fst_ (P.map (cjP x.fl))) (snd_ (P.map (cjP x.fl))) n n) (F4 : sprR (fst_ (P.map (cjP x.fl))) (snd_ (P.map (cjP x.fl))) n n ≤ p2 F * p2 F) {a b c : Nat}
    (H : FitS (Num.fv .f32 x.a) (Num.fv .f32 x.b) (p2 F) (sprR (fst_ (P.map (cjP x.fl))) (snd_ (P.map (cjP x.fl))) n n) n a b c) : ∃ ta tb s1 s2 g, FitE x P n m o a b c ta tb s1 s2 g := by
  have hp := pts_of (x := x) hl hn hn2 hP
  have hta := half_of hx.a
  have htb := half_of hx.b
  have lo := R_lo F1
  have hi := R_hi F2
  have R0 : 0 ≤ p2 F := by grind
  obtain ⟨MI1, MI2⟩ := mid_img hx hl hn hP
  have hS : 0 ≤ sprR (fst_ (P.map (cjP x.fl))) (snd_ (P.map (cjP x.fl))) n n := sumR_nn hp.nn
  obtain ⟨ia, ib, ic⟩ := H.mid F1 F2 hta htb hS F4 (by omega)
  have hkq : (((n : Nat) : Int) : Rat) ≤ ((7 : Int) : Rat) := Rat.intCast_le_intCast.2 (by omega)
  have e7 : ((7 : Int) : Rat) = 7 := rfl
  rw [e7] at hkq
  have hc1 := Rat.mul_nonneg (show 0 ≤ 7 - (((n : Nat) : Int) : Rat) by grind) R0
  have hix : InR (Num.fv .f32 a - Num.fv .f32 x.a * sprR (fst_ (P.map (cjP x.fl))) (snd_ (P.map (cjP x.fl))) n n) (245 * p2 F / 8388608) := in_mono H.ix (by grind)
  have hiy : InR (Num.fv .f32 b - Num.fv .f32 x.b * sprR (fst_ (P.map (cjP x.fl))) (snd_ (P.map (cjP x.fl))) n n) (245 * p2 F / 8388608) := in_mono H.iy (by grind)
  have hib : InR (Num.fv .f32 c - sprR (fst_ (P.map (cjP x.fl))) (snd_ (P.map (cjP x.fl))) n n) (315 * p2 F / 8388608) := in_mono H.ib (by grind)
  have hcl := (fit_low lo F3 hib).2
  have cc := Rat.mul_nonneg (show 0 ≤ Num.fv .f32 c - 1 / 80 by grind) (show 0 ≤ Num.fv .f32 c by grind)
  have l300 : (300 : Rat) ≤ lowM := by decide +kernel
  have l200 : (200 : Rat) ≤ lowM := by decide +kernel
  have tn : tiny ≤ Num.fv .f32 c * Num.fv .f32 c + Num.fv .f32 0 * Num.fv .f32 0 := by
    have e : tiny ≤ 1 / 6400 := by decide +kernel
    rw [c0.2]
    grind
  obtain ⟨ta, tb, u, v, q, QC, fu, fv', fq, _, fta, ftb⟩ := quot_num H.fx H.fy H.fb c0.1 (by decide) (in_mono ia l200) (in_mono ib l200) (in_mono ic l300) (by rw [c0.2]; unfold InR; decide +kernel) tn
  rw [c0.2] at fu fv' fq
  have k1 := in_prod ia ic (by decide +kernel)
  have k2 := in_prod ib ic (by decide +kernel)
  have k3 := in_prod ic ic (by decide +kernel)
  have e1 : Num.fv .f32 a * Num.fv .f32 c + Num.fv .f32 b * 0 = Num.fv .f32 a * Num.fv .f32 c := by grind
  have e2 : Num.fv .f32 b * Num.fv .f32 c - Num.fv .f32 a * 0 = Num.fv .f32 b * Num.fv .f32 c := by grind
  have e3 : Num.fv .f32 c * Num.fv .f32 c + 0 * 0 = Num.fv .f32 c * Num.fv .f32 c := by grind
  rw [e1] at fu
  rw [e2] at fv'
  rw [e3] at fq
  have nu := near64_by fu (in_mono k1 (by decide +kernel))
  have nv := near64_by fv' (in_mono k2 (by decide +kernel))
  have nq := near64_by fq (in_mono k3 (by decide +kernel))
  have qa := (fit_quot lo hi hta F3 hix hib nu nq).2
  have qb := (fit_quot lo hi htb F3 hiy hib nv nq).2
  have ra := fit_turn lo hi hta qa fta
  have rb := fit_turn lo hi htb qb ftb
  have ja := of_R lo ra
  have jb := of_R lo rb
  have ita : InR (Num.fv .f32 ta) 1 := by unfold InR at *; constructor <;> grind
  have itb : InR (Num.fv .f32 tb) 1 := by unfold InR at *; constructor <;> grind
  have m1 : (1 : Rat) ≤ mid := by decide +kernel
  have m2 : (2 : Rat) ≤ mid := by decide +kernel
  obtain ⟨g1, g2, GC, fg1, fg2⟩ := mul_num fta.fin ftb.fin hM.m1.fin hM.m2.fin (in_mono ita m1) (in_mono itb m1) (in_mono hM.a1 m2) (in_mono hM.a2 m2)
  have p1 := in_prod ita hM.a1 (by decide +kernel)
  have p2' := in_prod itb hM.a2 (by decide +kernel)
  have p3 := in_prod ita hM.a2 (by decide +kernel)
  have p4 := in_prod itb hM.a1 (by decide +kernel)
  have e4 : ((4 : Int) : Rat) = 4 := rfl
  have ig1 := rnd_in (C := 4) fg1 (by rw [e4]; unfold InR at *; constructor <;> grind) (by decide)
  have ig2 := rnd_in (C := 4) fg2 (by rw [e4]; unfold InR at *; constructor <;> grind) (by decide)
  rw [e4] at ig1 ig2
  have h3 := hM.a3
  have h4 := hM.a4
  have t7 : (7 : Rat) ≤ top := by decide +kernel
  obtain ⟨s1, s2, SC, fs1, fs2⟩ := subtract_num hM.o1.fin hM.o2.fin fg1.fin fg2.fin (by unfold InR at *; constructor <;> grind) (by unfold InR at *; constructor <;> grind)
  have hcx := gf24 hx.c
  have hdx := gf24 hx.d
  have nn1 := hM.n1
  have nn2 := hM.n2
  have nn3 := hM.n3
  have nn4 := hM.n4
  rw [MI1] at nn3
  rw [MI2] at nn4
  have htbn : InR (-Num.fv .f32 x.b) (1 / 2) := by unfold InR at *; constructor <;> grind
  have rbn : InR ((-Num.fv .f32 tb - -Num.fv .f32 x.b) * p2 F) (2060 / 8388608) := by
    have e : (-Num.fv .f32 tb - -Num.fv .f32 x.b) * p2 F = -((Num.fv .f32 tb - Num.fv .f32 x.b) * p2 F) := by grind
    rw [e]; unfold InR at *; constructor <;> grind
  have fg2' : FR .f32 (Num.fv .f32 ta * Num.fv .f32 m.2 - -Num.fv .f32 tb * Num.fv .f32 m.1) g2 := by
    have e : Num.fv .f32 ta * Num.fv .f32 m.2 - -Num.fv .f32 tb * Num.fv .f32 m.1 = Num.fv .f32 ta * Num.fv .f32 m.2 + Num.fv .f32 tb * Num.fv .f32 m.1 := by grind
    rw [e]; exact fg2
  have nn4' : InR (Num.fv .f32 o.2 - (Num.fv .f32 x.a * midR (snd_ (P.map (cjP x.fl))) n - -Num.fv .f32 x.b * midR (fst_ (P.map (cjP x.fl))) n + Num.fv .f32 x.d)) (1 / 4194304) := by
    have e : Num.fv .f32 x.a * midR (snd_ (P.map (cjP x.fl))) n - -Num.fv .f32 x.b * midR (fst_ (P.map (cjP x.fl))) n + Num.fv .f32 x.d = Num.fv .f32 x.a * midR (snd_ (P.map (cjP x.fl))) n + Num.fv .f32 x.b * midR (fst_ (P.map (cjP x.fl))) n + Num.fv .f32 x.d := by grind
    rw [e]; exact nn4
  have is1 : InR (Num.fv .f32 s1) ((7 : Int) : Rat) := rnd_in fs1 (by rw [e7]; unfold InR at *; constructor <;> grind) (by decide)
  have is2 : InR (Num.fv .f32 s2) ((7 : Int) : Rat) := rnd_in fs2 (by rw [e7]; unfold InR at *; constructor <;> grind) (by decide)
  rw [e7] at is1 is2
  have each : ∀ i < n, ∃ k q : Nat × Nat, ∃ l : Nat, (∀ w : World, Calls Try.prog 45 #[smallV ta tb s1 s2 x.fl 1065353216, .complex .f32 (P.getD i (0, 0)).1 (P.getD i (0, 0)).2] w fun e w' => e = .returned (.complex .f32 k.1 k.2) ∧ Below w.heap.size w w') ∧
    (∀ w : World, Calls Try.prog 53 #[.complex .f32 k.1 k.2, .complex .f32 ((P.map (mpP x)).getD i (0, 0)).1 ((P.map (mpP x)).getD i (0, 0)).2] w fun e w' => e = .returned (.complex .f32 q.1 q.2) ∧ w' = w) ∧ LongW q.1 q.2 l ∧ Num.fv .f32 l ≤ 63 / 65536 ∧ InR (Num.fv .f32 s1 - Num.fv .f32 x.c) (1 / 200) ∧ InR (Num.fv .f32 s2 - Num.fv .f32 x.d) (1 / 200) := by
    intro i hi'
    obtain ⟨I1, I2⟩ := img_at hx hl hP hi'
    have iu1 := hp.ix i hi'
    have iu2 := hp.iy i hi'
    have M := mpP_spec hx (hP _ (pl_mem hl hi'))
    have gt := getD_map (mpP x) hl hi'
    have gu := getD_map (cjP x.fl) hl hi'
    have hz := hP _ (pl_mem hl hi')
    have ft1 : Fl .f32 ((P.map (mpP x)).getD i (0, 0)).1 := by rw [gt]; exact M.g1.fin
    have ft2 : Fl .f32 ((P.map (mpP x)).getD i (0, 0)).2 := by rw [gt]; exact M.g2.fin
    have it1 : InR (fst_ (P.map (mpP x)) i) 3 := by unfold fst_; rw [gt]; exact gf596 M.g1
    have it2 : InR (snd_ (P.map (mpP x)) i) 3 := by unfold snd_; rw [gt]; exact gf596 M.g2
    obtain ⟨dx, dy⟩ := hp.dx_in R0 F4 i hi'
    have eu1 : Num.fv .f32 (P.getD i (0, 0)).1 = fst_ (P.map (cjP x.fl)) i := by unfold fst_; rw [gu]; rfl
    have eu2 : Num.fv .f32 (flipN x.fl (P.getD i (0, 0)).2) = snd_ (P.map (cjP x.fl)) i := by unfold snd_; rw [gu]; rfl
    have hfin := (hz.2.flip x.fl).1.fin
    obtain ⟨h1, h2, HC, fh1, fh2⟩ := mul_num fta.fin ftb.fin hz.1.fin hfin (in_mono ita m1) (in_mono itb m1) (by rw [eu1]; exact in_mono iu1 m2) (by rw [eu2]; exact in_mono iu2 m2)
    rw [eu1, eu2] at fh1 fh2
    have r1 := in_prod ita iu1 (by decide +kernel)
    have r2 := in_prod itb iu2 (by decide +kernel)
    have r3 := in_prod ita iu2 (by decide +kernel)
    have r4 := in_prod itb iu1 (by decide +kernel)
    have ih1 := rnd_in (C := 4) fh1 (by rw [e4]; unfold InR at *; constructor <;> grind) (by decide)
    have ih2 := rnd_in (C := 4) fh2 (by rw [e4]; unfold InR at *; constructor <;> grind) (by decide)
    rw [e4] at ih1 ih2
    have t11 : (11 : Rat) ≤ top := by decide +kernel
    obtain ⟨k1, k2, KC, fk1, fk2⟩ := add_num fh1.fin fh2.fin fs1.fin fs2.fin (by unfold InR at *; constructor <;> grind) (by unfold InR at *; constructor <;> grind)
    have e11 : ((11 : Int) : Rat) = 11 := rfl
    have ik1 := rnd_in (C := 11) fk1 (by rw [e11]; unfold InR at *; constructor <;> grind) (by decide)
    have ik2 := rnd_in (C := 11) fk2 (by rw [e11]; unfold InR at *; constructor <;> grind) (by decide)
    rw [e11] at ik1 ik2
    have t14 : (14 : Rat) ≤ top := by decide +kernel
    have v1 : Num.fv .f32 ((P.map (mpP x)).getD i (0, 0)).1 = fst_ (P.map (mpP x)) i := rfl
    have v2 : Num.fv .f32 ((P.map (mpP x)).getD i (0, 0)).2 = snd_ (P.map (mpP x)) i := rfl
    obtain ⟨q1, q2, DC, fq1, fq2⟩ := subtract_num fk1.fin fk2.fin ft1 ft2 (by rw [v1]; unfold InR at *; constructor <;> grind) (by rw [v2]; unfold InR at *; constructor <;> grind)
    rw [v1, I1] at fq1
    rw [v2, I2] at fq2
    have fh2' : FR .f32 (Num.fv .f32 ta * snd_ (P.map (cjP x.fl)) i - -Num.fv .f32 tb * fst_ (P.map (cjP x.fl)) i) h2 := by
      have e : Num.fv .f32 ta * snd_ (P.map (cjP x.fl)) i - -Num.fv .f32 tb * fst_ (P.map (cjP x.fl)) i = Num.fv .f32 ta * snd_ (P.map (cjP x.fl)) i + Num.fv .f32 tb * fst_ (P.map (cjP x.fl)) i := by grind
      rw [e]; exact fh2
    have fq2' : FR .f32 (Num.fv .f32 k2 - (Num.fv .f32 x.a * snd_ (P.map (cjP x.fl)) i - -Num.fv .f32 x.b * fst_ (P.map (cjP x.fl)) i + Num.fv .f32 x.d)) q2 := by
      have e : Num.fv .f32 x.a * snd_ (P.map (cjP x.fl)) i - -Num.fv .f32 x.b * fst_ (P.map (cjP x.fl)) i + Num.fv .f32 x.d = Num.fv .f32 x.a * snd_ (P.map (cjP x.fl)) i + Num.fv .f32 x.b * fst_ (P.map (cjP x.fl)) i + Num.fv .f32 x.d := by grind
      rw [e]; exact fq2
    obtain ⟨A1, A2, _, _⟩ := fit_part lo hta htb hcx dx dy iu1 iu2 hp.mx hp.my rfl rfl nn1 nn2 nn3 ra rb fg1 fs1 fh1 fk1 fq1
    obtain ⟨B1, B2, _, _⟩ := fit_part lo hta htbn hdx dy dx iu2 iu1 hp.my hp.mx rfl rfl nn2 nn1 nn4' ra rbn fg2' fs2 fh2' fk2 fq2'
    have mq : (4142 : Rat) / 8388608 ≤ mid := by decide +kernel
    obtain ⟨l, LW⟩ := long_w fq1.fin fq2.fin (lt32 fq1) (lt32 fq2) (in_mono A2 mq) (in_mono B2 mq)
    exact ⟨(k1, k2), (q1, q2), l, maps_w x.fl HC KC, DC, LW, long_63 LW A2 B2, A1, B1⟩
  obtain ⟨_, _, _, _, _, _, _, A1, B1⟩ := each 0 (by omega)
  refine ⟨ta, tb, s1, s2, (g1, g2), ?_, QC, GC, SC, ?_, in_mono ja (by decide +kernel), in_mono jb (by decide +kernel), A1, B1, fun i hi' => ?_⟩
  · rw [cmp_gt' H.fb c0.1 (by rw [c0.2]; grind)]; rfl
  · have o := hx.okSmall (N := N) (by
      rcases Nat.eq_zero_or_pos N with e | e
      · have := hx.s1; rw [e] at this; exact absurd this (by have : ((0 : Nat) : Rat) = 0 := rfl; rw [this]; grind)
      · exact e)
    have x1 := abs_sq (x := Num.fv .f32 ta) (d := 1 / 2 + 1 / 500) (by unfold InR at *; grind) (by unfold InR at *; grind)
    have x2 := abs_sq (x := Num.fv .f32 tb) (d := 1 / 2 + 1 / 500) (by unfold InR at *; grind) (by unfold InR at *; grind)
    have cq : ((1 : Rat) / 2 + 1 / 500) * (1 / 2 + 1 / 500) + (1 / 2 + 1 / 500) * (1 / 2 + 1 / 500) ≤ 9 / 16 := by decide +kernel
    have k7 : (7 : Rat) ≤ 1000 := by decide +kernel
    exact ⟨fta.fin, ftb.fin, fs1.fin, fs2.fin, c1.1, by grind, in_mono is1 k7, in_mono is2 k7, by rw [c1.2]; decide +kernel, by rw [c1.2]; exact Rat.le_refl⟩
  · obtain ⟨k, q, l, a1, a2, a3, a4, _, _⟩ := each i hi'
    exact ⟨k, q, l, a1, a2, a3, a4⟩
end Go.Proofs.Ytbpgbplepebcjaa

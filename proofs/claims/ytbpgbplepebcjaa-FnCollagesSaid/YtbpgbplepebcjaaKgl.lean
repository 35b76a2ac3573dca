/- Plain law with the walks' contracts: the sums of a fit, point by point, and what it gives. Conditions: points as the reference draws them, and what a map makes of them. -/
import Derived.Test.YtbpgbplepebcjaaKgj
namespace Go.Proofs.Ytbpgbplepebcjaa
open Go.RowKit
open Num Quick

def cjP (fl : Bool) (z : Nat × Nat) : Nat × Nat := (z.1, flipN fl z.2)
theorem cj_set {fl : Bool} {P : List (Nat × Nat)} {i : Nat} (h : i < P.length) : ((P.take i).map (cjP fl) ++ P.drop i).set i (cjP fl (P.getD i (0, 0))) = (P.take (i + 1)).map (cjP fl) ++ P.drop (i + 1) := by
  have e1 : P.drop i = P[i] :: P.drop (i + 1) := List.drop_eq_getElem_cons h
  have e2 : P.getD i (0, 0) = P[i] := by rw [List.getD_eq_getElem?_getD, List.getElem?_eq_getElem h]; rfl
  have hl : ((P.take i).map (cjP fl)).length = i := by rw [List.length_map, List.length_take]; omega
  rw [e1, e2, List.set_append_right _ _ (by omega), hl, Nat.sub_self, List.set_cons_zero, List.take_add_one, List.getElem?_eq_getElem h, List.map_append, List.append_assoc]
  rfl
theorem cj_get {fl : Bool} {P : List (Nat × Nat)} {i : Nat} (h : i < P.length) : ((P.take i).map (cjP fl) ++ P.drop i)[i]? = some (P.getD i (0, 0)) := by
  have hl : ((P.take i).map (cjP fl)).length = i := by rw [List.length_map, List.length_take]; omega
  rw [List.getElem?_append_right (by omega), hl, Nat.sub_self, List.getElem?_drop, Nat.add_zero, List.getD_eq_getElem?_getD, List.getElem?_eq_getElem h]
  rfl
theorem cj_len {fl : Bool} {P : List (Nat × Nat)} {i : Nat} (h : i ≤ P.length) : ((P.take i).map (cjP fl) ++ P.drop i).length = P.length := by
  rw [List.length_append, List.length_map, List.length_take, List.length_drop]; omega
theorem cj_no {P : List (Nat × Nat)} {i : Nat} (h : i ≤ P.length) : (P.take i).map (cjP false) ++ P.drop i = P := by
  have e : (P.take i).map (cjP false) = P.take i := by
    have : cjP false = id := by funext z; rfl
    rw [this, List.map_id]
  rw [e, List.take_append_drop]
theorem getD_map (f : Nat × Nat → Nat × Nat) {P : List (Nat × Nat)} {i n : Nat} (hl : P.length = n) (h : i < n) : (P.map f).getD i (0, 0) = f (P.getD i (0, 0)) := by
  have h : i < P.length := by omega
  rw [List.getD_eq_getElem?_getD, List.getElem?_map, List.getElem?_eq_getElem h, List.getD_eq_getElem?_getD, List.getElem?_eq_getElem h]
  rfl
/-- What the fit of x's images gives. -/
structure FitOut (x : Sm) (a b c d l : Nat) : Prop where
  fa : Fl .f32 a
  fb : Fl .f32 b
  fc : Fl .f32 c
  fd : Fl .f32 d
  ia : InR (Num.fv .f32 a - Num.fv .f32 x.a) (1 / 500)
  ib : InR (Num.fv .f32 b - Num.fv .f32 x.b) (1 / 500)
  ic : InR (Num.fv .f32 c - Num.fv .f32 x.c) (1 / 200)
  id : InR (Num.fv .f32 d - Num.fv .f32 x.d) (1 / 200)
  ll : l < 2139095040
  il : Num.fv .f32 l ≤ 63 / 65536
/-- All points are the same. -/
def Flat (U : List (Nat × Nat)) (n : Nat) : Prop := ∀ i < n, fst_ U i = fst_ U 0 ∧ snd_ U i = snd_ U 0
theorem img_at {N : Nat} {x : Sm} (hx : x.ok N) {P : List (Nat × Nat)} {n : Nat} (hl : P.length = n) (hP : ∀ p ∈ P, PtOk p) {i : Nat} (hi : i < n) :
    fst_ (P.map (mpP x)) i = Num.fv .f32 x.a * fst_ (P.map (cjP x.fl)) i - Num.fv .f32 x.b * snd_ (P.map (cjP x.fl)) i + Num.fv .f32 x.c ∧
    snd_ (P.map (mpP x)) i = Num.fv .f32 x.a * snd_ (P.map (cjP x.fl)) i + Num.fv .f32 x.b * fst_ (P.map (cjP x.fl)) i + Num.fv .f32 x.d := by
  unfold fst_ snd_
  rw [getD_map _ hl hi, getD_map _ hl hi]
  have hz := hP _ (pl_mem hl hi)
  have M := mpP_spec hx hz
  have hf := (hz.2.flip x.fl).2
  rw [M.v1, M.v2]
  show _ = _ * Num.fv .f32 (P.getD i (0, 0)).1 - _ * Num.fv .f32 (flipN x.fl (P.getD i (0, 0)).2) + _ ∧ _ = _ * Num.fv .f32 (flipN x.fl (P.getD i (0, 0)).2) + _ * Num.fv .f32 (P.getD i (0, 0)).1 + _
  rw [hf]
  exact ⟨rfl, rfl⟩
theorem gf28 {w : Nat} (h : GF 2 8 w) : InR (Num.fv .f32 w) 2 := by
  have := h.gr.bound (C := 2) (by decide)
  have e : ((2 : Int) : Rat) = 2 := rfl
  first | exact this | (rw [e] at this; exact this)
theorem gf596 {w : Nat} (h : GF 5 96 w) : InR (Num.fv .f32 w) 3 := by
  have := h.gr.bound (C := 3) (by decide)
  have e : ((3 : Int) : Rat) = 3 := rfl
  first | exact this | (rw [e] at this; exact this)
theorem gf24 {w : Nat} (h : GF 2 4 w) : InR (Num.fv .f32 w) 1 := by
  have := h.gr.bound (C := 1) (by decide)
  have e : ((1 : Int) : Rat) = 1 := rfl
  first | exact this | (rw [e] at this; exact this)
theorem pts_of {x : Sm} {P : List (Nat × Nat)} {n : Nat} (hl : P.length = n) (hn : 1 ≤ n) (hn2 : n ≤ 7) (hP : ∀ p ∈ P, PtOk p) : Pts (fst_ (P.map (cjP x.fl))) (snd_ (P.map (cjP x.fl))) n := by
  refine ⟨hn, hn2, fun i hi => ?_, fun i hi => ?_⟩
  · unfold fst_
    rw [getD_map _ hl hi]
    exact gf28 (hP _ (pl_mem hl hi)).1
  · unfold snd_
    rw [getD_map _ hl hi]
    exact gf28 ((hP _ (pl_mem hl hi)).2.flip x.fl).1
/-- The middles. -/
structure MidW (mx my ox oy : Rat) (m o : Nat × Nat) : Prop where
  m1 : FR .f32 mx m.1
  m2 : FR .f32 my m.2
  o1 : FR .f32 ox o.1
  o2 : FR .f32 oy o.2
  imx : InR mx 2
  imy : InR my 2
  iox : InR ox 3
  ioy : InR oy 3
section
variable {mx my ox oy : Rat} {m o : Nat × Nat}
theorem MidW.a1 (h : MidW mx my ox oy m o) : InR (Num.fv .f32 m.1) 2 := rnd_in (C := 2) h.m1 h.imx (by decide)
theorem MidW.a2 (h : MidW mx my ox oy m o) : InR (Num.fv .f32 m.2) 2 := rnd_in (C := 2) h.m2 h.imy (by decide)
theorem MidW.a3 (h : MidW mx my ox oy m o) : InR (Num.fv .f32 o.1) 3 := rnd_in (C := 3) h.o1 h.iox (by decide)
theorem MidW.a4 (h : MidW mx my ox oy m o) : InR (Num.fv .f32 o.2) 3 := rnd_in (C := 3) h.o2 h.ioy (by decide)
theorem MidW.n1 (h : MidW mx my ox oy m o) : InR (Num.fv .f32 m.1 - mx) (1 / 8388608) := by
  have := near2 h.m1 h.imx
  unfold InR; constructor <;> grind
theorem MidW.n2 (h : MidW mx my ox oy m o) : InR (Num.fv .f32 m.2 - my) (1 / 8388608) := by
  have := near2 h.m2 h.imy
  unfold InR; constructor <;> grind
theorem MidW.n3 (h : MidW mx my ox oy m o) : InR (Num.fv .f32 o.1 - ox) (1 / 4194304) := near4 h.o1 (in_mono h.iox (by decide +kernel))
theorem MidW.n4 (h : MidW mx my ox oy m o) : InR (Num.fv .f32 o.2 - oy) (1 / 4194304) := near4 h.o2 (in_mono h.ioy (by decide +kernel))
end
theorem mid_img {N : Nat} {x : Sm} (hx : x.ok N) {P : List (Nat × Nat)} {n : Nat} (hl : P.length = n) (hn : 1 ≤ n) (hP : ∀ p ∈ P, PtOk p) :
    midR (fst_ (P.map (mpP x))) n = Num.fv .f32 x.a * midR (fst_ (P.map (cjP x.fl))) n - Num.fv .f32 x.b * midR (snd_ (P.map (cjP x.fl))) n + Num.fv .f32 x.c ∧
    midR (snd_ (P.map (mpP x))) n = Num.fv .f32 x.a * midR (snd_ (P.map (cjP x.fl))) n + Num.fv .f32 x.b * midR (fst_ (P.map (cjP x.fl))) n + Num.fv .f32 x.d := by
  constructor
  · rw [← mid_lin hn]
    unfold midR
    rw [sumR_congr (fun i hi => (img_at hx hl hP hi).1)]
  · have e : Num.fv .f32 x.a * midR (snd_ (P.map (cjP x.fl))) n + Num.fv .f32 x.b * midR (fst_ (P.map (cjP x.fl))) n + Num.fv .f32 x.d = Num.fv .f32 x.a * midR (snd_ (P.map (cjP x.fl))) n - (-Num.fv .f32 x.b) * midR (fst_ (P.map (cjP x.fl))) n + Num.fv .f32 x.d := by grind
    rw [e, ← mid_lin hn]
    unfold midR
    rw [sumR_congr (fun i hi => (img_at hx hl hP hi).2)]
    congr 1
    exact sumR_congr fun i hi => by grind
theorem midw_of {N : Nat} {x : Sm} (hx : x.ok N) {P : List (Nat × Nat)} {n : Nat} (hl : P.length = n) (hn : 1 ≤ n) (hn2 : n ≤ 7) (hP : ∀ p ∈ P, PtOk p) {m o : Nat × Nat}
    (f1 : FR .f32 (midR (fst_ (P.map (cjP x.fl))) n) m.1) (f2 : FR .f32 (midR (snd_ (P.map (cjP x.fl))) n) m.2) (f3 : FR .f32 (midR (fst_ (P.map (mpP x))) n) o.1) (f4 : FR .f32 (midR (snd_ (P.map (mpP x))) n) o.2) :
    MidW (midR (fst_ (P.map (cjP x.fl))) n) (midR (snd_ (P.map (cjP x.fl))) n) (midR (fst_ (P.map (mpP x))) n) (midR (snd_ (P.map (mpP x))) n) m o := by
  have p := pts_of (x := x) hl hn hn2 hP
  refine ⟨f1, f2, f3, f4, p.mx, p.my, mean_in hn (by decide +kernel) fun i hi => ?_, mean_in hn (by decide +kernel) fun i hi => ?_⟩
  · unfold fst_
    rw [getD_map _ hl hi]
    exact gf596 (mpP_spec hx (hP _ (pl_mem hl hi))).g1
  · unfold snd_
    rw [getD_map _ hl hi]
    exact gf596 (mpP_spec hx (hP _ (pl_mem hl hi))).g2
theorem spr_flat {U : List (Nat × Nat)} {n : Nat} (hn : 1 ≤ n) (h : Flat U n) : (∀ i < n, fst_ U i - midR (fst_ U) n = 0 ∧ snd_ U i - midR (snd_ U) n = 0) ∧ sprR (fst_ U) (snd_ U) n n = 0 := by
  have e1 := mid_same hn (fun i hi => (h i hi).1)
  have e2 := mid_same hn (fun i hi => (h i hi).2)
  have k : ∀ i < n, fst_ U i - midR (fst_ U) n = 0 ∧ snd_ U i - midR (snd_ U) n = 0 := fun i hi => by
    rw [e1, e2, (h i hi).1, (h i hi).2]
    constructor <;> grind
  refine ⟨k, sumR_zero fun i hi => ?_⟩
  rw [(k i hi).1, (k i hi).2]
  grind
theorem fit_ctx {N : Nat} {x : Sm} (hx : x.ok N) {P : List (Nat × Nat)} {n : Nat} (hl : P.length = n) (hn : 1 ≤ n) (hn2 : n ≤ 7) (hP : ∀ p ∈ P, PtOk p) {m o : Nat × Nat}
    (hM : MidW (midR (fst_ (P.map (cjP x.fl))) n) (midR (snd_ (P.map (cjP x.fl))) n) (midR (fst_ (P.map (mpP x))) n) (midR (snd_ (P.map (mpP x))) n) m o)
    (hsp : 1 / 32 ≤ sprR (fst_ (P.map (cjP x.fl))) (snd_ (P.map (cjP x.fl))) n n ∨ Flat (P.map (cjP x.fl)) n) :
    ∃ F : Int, -2 ≤ F ∧ F ≤ 4 ∧ (1 / 32 ≤ sprR (fst_ (P.map (cjP x.fl))) (snd_ (P.map (cjP x.fl))) n n → p2 F * p2 F / 4 ≤ sprR (fst_ (P.map (cjP x.fl))) (snd_ (P.map (cjP x.fl))) n n) ∧ sprR (fst_ (P.map (cjP x.fl))) (snd_ (P.map (cjP x.fl))) n n ≤ p2 F * p2 F ∧
      ∀ i < n, ∃ d e p r, FitW ((P.map (cjP x.fl)).getD i (0, 0)) m ((P.map (mpP x)).getD i (0, 0)) o d e p r ∧
        ∀ a b c, FitS (Num.fv .f32 x.a) (Num.fv .f32 x.b) (p2 F) (sprR (fst_ (P.map (cjP x.fl))) (snd_ (P.map (cjP x.fl))) n i) i a b c →
          ∃ a' b' c', (∀ w : World, Calls Try.prog 50 #[.complex .f32 a b, .complex .f32 p.1 p.2] w fun e w' => e = .returned (.complex .f32 a' b') ∧ w' = w) ∧ floatBits .add .f32 c r = some c' ∧
            FitS (Num.fv .f32 x.a) (Num.fv .f32 x.b) (p2 F) (sprR (fst_ (P.map (cjP x.fl))) (snd_ (P.map (cjP x.fl))) n (i + 1)) (i + 1) a' b' c' ∧ (Flat (P.map (cjP x.fl)) n → Num.fv .f32 c = 0 → Num.fv .f32 c' = 0) := by
  have hp := pts_of (x := x) hl hn hn2 hP
  have hta := half_of hx.a
  have htb := half_of hx.b
  obtain ⟨F, F1, F2, F3, F4⟩ : ∃ F : Int, -2 ≤ F ∧ F ≤ 4 ∧ (1 / 32 ≤ sprR (fst_ (P.map (cjP x.fl))) (snd_ (P.map (cjP x.fl))) n n → p2 F * p2 F / 4 ≤ sprR (fst_ (P.map (cjP x.fl))) (snd_ (P.map (cjP x.fl))) n n) ∧ sprR (fst_ (P.map (cjP x.fl))) (snd_ (P.map (cjP x.fl))) n n ≤ p2 F * p2 F := by
    rcases hsp with h | h
    · obtain ⟨F, a, b, c, d⟩ := pick_F h hp.top
      exact ⟨F, a, b, fun _ => d, c⟩
    · have e := (spr_flat hn h).2
      refine ⟨-2, by decide, by decide, fun h2 => ?_, ?_⟩
      · rw [e] at h2; exact absurd h2 (by decide +kernel)
      · rw [e]; decide +kernel
  refine ⟨F, F1, F2, F3, F4, fun i hi => ?_⟩
  obtain ⟨MI1, MI2⟩ := mid_img hx hl hn hP
  obtain ⟨I1, I2⟩ := img_at hx hl hP hi
  have iu1 : InR (Num.fv .f32 ((P.map (cjP x.fl)).getD i (0, 0)).1) 2 := hp.ix i hi
  have iu2 : InR (Num.fv .f32 ((P.map (cjP x.fl)).getD i (0, 0)).2) 2 := hp.iy i hi
  have M := mpP_spec hx (hP _ (pl_mem hl hi))
  have gt := getD_map (mpP x) hl hi
  have gu := getD_map (cjP x.fl) hl hi
  have fu1 : Fl .f32 ((P.map (cjP x.fl)).getD i (0, 0)).1 := by rw [gu]; exact (hP _ (pl_mem hl hi)).1.fin
  have fu2 : Fl .f32 ((P.map (cjP x.fl)).getD i (0, 0)).2 := by rw [gu]; exact ((hP _ (pl_mem hl hi)).2.flip x.fl).1.fin
  have ft1 : Fl .f32 ((P.map (mpP x)).getD i (0, 0)).1 := by rw [gt]; exact M.g1.fin
  have ft2 : Fl .f32 ((P.map (mpP x)).getD i (0, 0)).2 := by rw [gt]; exact M.g2.fin
  have it1 : InR (Num.fv .f32 ((P.map (mpP x)).getD i (0, 0)).1) 3 := by rw [gt]; exact gf596 M.g1
  have it2 : InR (Num.fv .f32 ((P.map (mpP x)).getD i (0, 0)).2) 3 := by rw [gt]; exact gf596 M.g2
  obtain ⟨d, e, p, r, W⟩ := fit_words (u := (P.map (cjP x.fl)).getD i (0, 0)) (t := (P.map (mpP x)).getD i (0, 0)) fu1 fu2 hM.m1.fin hM.m2.fin ft1 ft2 hM.o1.fin hM.o2.fin iu1 iu2 hM.a1 hM.a2 it1 it2 hM.a3 hM.a4
  have NR := fit_near W iu1 iu2 hM.a1 hM.a2 it1 it2 hM.a3 hM.a4 hM.n1 hM.n2 hM.n3 hM.n4 rfl rfl rfl rfl
  have WM := W.mid iu1 iu2 hM.a1 hM.a2 it1 it2 hM.a3 hM.a4
  obtain ⟨dx, dy⟩ := hp.dx_in (R := p2 F) (by have := R_lo F1; grind) F4 i hi
  refine ⟨d, e, p, r, W, fun a b c H => ?_⟩
  have hS := sumR_nn (f := fun i => (fst_ (P.map (cjP x.fl)) i - midR (fst_ (P.map (cjP x.fl))) n) * (fst_ (P.map (cjP x.fl)) i - midR (fst_ (P.map (cjP x.fl))) n) + (snd_ (P.map (cjP x.fl)) i - midR (snd_ (P.map (cjP x.fl))) n) * (snd_ (P.map (cjP x.fl)) i - midR (snd_ (P.map (cjP x.fl))) n)) (n := i) fun j hj => hp.nn j (by omega)
  have hS1 := Rat.le_trans (sumR_mono hp.nn (k := i + 1) (by omega)) F4
  have hS0 := Rat.le_trans (sumR_mono hp.nn (k := i) (by omega)) F4
  obtain ⟨ma, mb, mc⟩ := H.mid F1 F2 hta htb hS hS0 (by omega)
  have t300 : InR (Num.fv .f32 a + Num.fv .f32 p.1) top := by
    have e : (300 : Rat) ≤ top := by decide +kernel
    have := WM.1
    unfold InR at *; constructor <;> grind
  have t300' : InR (Num.fv .f32 b + Num.fv .f32 p.2) top := by
    have e : (300 : Rat) ≤ top := by decide +kernel
    have := WM.2.1
    unfold InR at *; constructor <;> grind
  have t400 : InR (Num.fv .f32 c + Num.fv .f32 r) top := by
    have e : (400 : Rat) ≤ top := by decide +kernel
    have := WM.2.2
    unfold InR at *; constructor <;> grind
  obtain ⟨a', b', AC, fa', fb'⟩ := add_num H.fx H.fy W.p1.fin W.p2.fin t300 t300'
  obtain ⟨c', c1, c2⟩ := fadd H.fb W.rr.fin t400.1 t400.2
  refine ⟨a', b', c', AC, c1, ?_, fun hflat hc0 => ?_⟩
  · refine fit_step F1 F2 (by omega) hta htb dx dy hS hS1 NR.1 NR.2.1 ?_ ?_ W.p1 W.p2 W.rr H fa' fb' c2
    · have := NR.2.2.1
      have e : Num.fv .f32 ((P.map (mpP x)).getD i (0, 0)).1 - midR (fst_ (P.map (mpP x))) n = Num.fv .f32 x.a * (fst_ (P.map (cjP x.fl)) i - midR (fst_ (P.map (cjP x.fl))) n) - Num.fv .f32 x.b * (snd_ (P.map (cjP x.fl)) i - midR (snd_ (P.map (cjP x.fl))) n) := by
        have : Num.fv .f32 ((P.map (mpP x)).getD i (0, 0)).1 = fst_ (P.map (mpP x)) i := rfl
        rw [this, I1, MI1]; grind
      rwa [e] at this
    · have := NR.2.2.2
      have e : Num.fv .f32 ((P.map (mpP x)).getD i (0, 0)).2 - midR (snd_ (P.map (mpP x))) n = Num.fv .f32 x.a * (snd_ (P.map (cjP x.fl)) i - midR (snd_ (P.map (cjP x.fl))) n) + Num.fv .f32 x.b * (fst_ (P.map (cjP x.fl)) i - midR (fst_ (P.map (cjP x.fl))) n) := by
        have : Num.fv .f32 ((P.map (mpP x)).getD i (0, 0)).2 = snd_ (P.map (mpP x)) i := rfl
        rw [this, I2, MI2]; grind
      rwa [e] at this
  · have rep0 : Rep FloatKind.f32.format 0 := by
      have := rep_nat .f32 0 (by decide)
      rwa [Rat.intCast_zero] at this
    obtain ⟨z1, z2⟩ := (spr_flat hn hflat).1 i hi
    have k1 : Num.fv .f32 m.1 = midR (fst_ (P.map (cjP x.fl))) n := hM.m1.exact _ (by
      have e : midR (fst_ (P.map (cjP x.fl))) n = Num.fv .f32 ((P.map (cjP x.fl)).getD i (0, 0)).1 := by
        have : fst_ (P.map (cjP x.fl)) i = Num.fv .f32 ((P.map (cjP x.fl)).getD i (0, 0)).1 := rfl
        rw [← this]; grind
      rw [e]; exact rep_val _ fu1)
    have k2 : Num.fv .f32 m.2 = midR (snd_ (P.map (cjP x.fl))) n := hM.m2.exact _ (by
      have e : midR (snd_ (P.map (cjP x.fl))) n = Num.fv .f32 ((P.map (cjP x.fl)).getD i (0, 0)).2 := by
        have : snd_ (P.map (cjP x.fl)) i = Num.fv .f32 ((P.map (cjP x.fl)).getD i (0, 0)).2 := rfl
        rw [← this]; grind
      rw [e]; exact rep_val _ fu2)
    have q1 : Num.fv .f32 ((P.map (cjP x.fl)).getD i (0, 0)).1 - Num.fv .f32 m.1 = 0 := by rw [k1]; exact z1
    have q2 : Num.fv .f32 ((P.map (cjP x.fl)).getD i (0, 0)).2 - Num.fv .f32 m.2 = 0 := by rw [k2]; exact z2
    have v1 := W.d1
    have v2 := W.d2
    rw [q1] at v1
    rw [q2] at v2
    have w1 : Num.fv .f32 d.1 = 0 := v1.exact _ rep0
    have w2 : Num.fv .f32 d.2 = 0 := v2.exact _ rep0
    have vr := W.rr
    rw [w1, w2, show (0 : Rat) * 0 + 0 * 0 = 0 by grind] at vr
    have wr : Num.fv .f32 r = 0 := vr.exact _ rep0
    rw [hc0, wr, show (0 : Rat) + 0 = 0 by grind] at c2
    exact c2.exact _ rep0
end Go.Proofs.Ytbpgbplepebcjaa

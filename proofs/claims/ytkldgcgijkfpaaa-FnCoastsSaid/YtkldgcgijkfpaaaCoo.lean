/- Plain law: the words of the even points. Conditions: 2 to 7 points of parts up to 2, a line not of length nothing. -/
import Derived.Test.YtkldgcgijkfpaaaCom
import Derived.Test.YtkldgcgijkfpaaaCon
namespace Go.Proofs.Ytkldgcgijkfpaaa
open Go.RowKit
open Num Quick
attribute [local go_sem] run_store_fl run_store_cx

theorem p2_3 : p2 3 = 8 := by decide +kernel
theorem p2_4 : p2 4 = 16 := by decide +kernel
theorem p2_m20 : p2 (-20) = 1 / 1048576 := by decide +kernel
theorem p2_m21 : p2 (-21) = 1 / 2097152 := by decide +kernel
theorem p2_m24 : p2 (-24) = 1 / 16777216 := by decide +kernel
theorem p2_0 : p2 0 = 1 := by decide +kernel
/-- Where the program is while it looks for a piece. -/
structure EvS (f : Nat → Nat × Nat) (n : Nat) (v : Rat) (i x : Nat) : Prop where
  hi : i + 1 < n
  fin : Fl .f32 x
  nn : 0 ≤ Num.fv .f32 x
  le : Num.fv .f32 x ≤ 64
  near : InR (tsum f (i + 1) + Num.fv .f32 x - v) (((i + 1 : Nat) : Rat) * (1 / 262144))
theorem step8 (k : Nat) (hk : k < 8) : ∃ q, floatBits .quo .f32 (floatOfInt .f32 (k : Int)) (floatOfInt .f32 (8 : Int)) = some q ∧ Fl .f32 q ∧ Num.fv .f32 q = (k : Rat) / 8 := by
  obtain ⟨f1, f2, f3⟩ := fint .f32 (k : Int) (by omega)
  obtain ⟨g1, g2, g3⟩ := fint .f32 (8 : Int) (by omega)
  have e8 : ((8 : Int) : Rat) = 8 := rfl
  have e2 : ((2 ^ 3 : Nat) : Rat) = 8 := rfl
  rw [e8] at g2
  rw [Rat.intCast_natCast] at f2
  have h0 : (0 : Rat) ≤ (k : Rat) := Rat.natCast_nonneg
  have h8 : (k : Rat) ≤ ((8 : Nat) : Rat) := Rat.natCast_le_natCast.2 (by omega)
  have e8n : ((8 : Nat) : Rat) = 8 := rfl
  rw [e8n] at h8
  have t : (1 : Rat) ≤ top := by decide +kernel
  obtain ⟨T, eT⟩ : ∃ T : Rat, top = T := ⟨_, rfl⟩
  rw [eT] at t
  have hd : (k : Rat) / 8 = (k : Rat) * (1 / 8) := by
    rw [Rat.div_def]
    have e : (8 : Rat)⁻¹ = 1 / 8 := by decide +kernel
    rw [e]
  obtain ⟨q, q1, q2⟩ := fdiv f1 g1 (by rw [g2]; decide) (by rw [eT, f2, g2, hd]; grind) (by rw [eT, f2, g2, hd]; grind)
  rw [f2, g2] at q2
  have r := rep_frac .f32 (k : Int) 3 (by omega) (by omega)
  rw [e2, Rat.intCast_natCast] at r
  exact ⟨q, q1, q2.fin, q2.exact _ r⟩
theorem start_ex {f : Nat → Nat × Nat} {n l q k : Nat} (hn : 2 ≤ n) (hk : k < 8) (fl : Fl .f32 l) (h0 : 0 ≤ Num.fv .f32 l) (h1 : Num.fv .f32 l ≤ 60) (fq : Fl .f32 q) (eq : Num.fv .f32 q = (k : Rat) / 8) :
    ∃ x, floatBits .mul .f32 l q = some x ∧ EvS f n (Num.fv .f32 l * ((k : Rat) / 8)) 0 x := by
  have hk0 : (0 : Rat) ≤ (k : Rat) := Rat.natCast_nonneg
  have h8 : (k : Rat) ≤ ((8 : Nat) : Rat) := Rat.natCast_le_natCast.2 (by omega)
  have e8n : ((8 : Nat) : Rat) = 8 := rfl
  rw [e8n] at h8
  have hd : (k : Rat) / 8 = (k : Rat) * (1 / 8) := by
    rw [Rat.div_def]
    have e : (8 : Rat)⁻¹ = 1 / 8 := by decide +kernel
    rw [e]
  have t : (64 : Rat) ≤ top := by decide +kernel
  obtain ⟨T, eT⟩ : ∃ T : Rat, top = T := ⟨_, rfl⟩
  rw [eT] at t
  have b0 : 0 ≤ Num.fv .f32 l * ((k : Rat) / 8) := Rat.mul_nonneg h0 (by rw [hd]; grind)
  have b1 : Num.fv .f32 l * ((k : Rat) / 8) ≤ Num.fv .f32 l * 1 := Rat.mul_le_mul_of_nonneg_left (by rw [hd]; grind) h0
  obtain ⟨x, x1, x2⟩ := fmul fl fq (by rw [eT, eq]; grind) (by rw [eT, eq]; grind)
  rw [eq] at x2
  obtain ⟨V, eV⟩ : ∃ V : Rat, Num.fv .f32 l * ((k : Rat) / 8) = V := ⟨_, rfl⟩
  rw [eV] at x2 b0 b1 ⊢
  have g0 := x2.ge_int 0 (by decide) (by rw [Rat.intCast_zero]; exact b0)
  rw [Rat.intCast_zero] at g0
  have e64 : ((64 : Int) : Rat) = 64 := rfl
  have g1 := x2.le_int 64 (by decide) (by rw [e64]; grind)
  rw [e64] at g1
  have m := x2.near32 6 (by decide) (by decide) (by rw [p2_6]; grind) (by rw [p2_6]; grind)
  rw [show (6 : Int) - 24 = -18 by decide, p2_m18] at m
  refine ⟨x, x1, ⟨by omega, x2.fin, g0, g1, ?_⟩⟩
  have e0 : tsum f (0 + 1) = 0 := rfl
  have e1 : ((0 + 1 : Nat) : Rat) = 1 := rfl
  rw [e0, e1]
  unfold InR
  constructor <;> grind
theorem EvS.step {f : Nat → Nat × Nat} {n i x : Nat} {v : Rat} (h : EvS f n v i x) (hp : Pcs f n) (hw : Fl .f32 (pcw (f i) (f (i + 1)))) (h2 : i + 2 < n) (hs : Num.fv .f32 (pcw (f i) (f (i + 1))) ≤ Num.fv .f32 x) :
    ∃ y, floatBits .sub .f32 x (pcw (f i) (f (i + 1))) = some y ∧ EvS f n v (i + 1) y := by
  have w0 := (hp i h.hi).1
  have tn := tsum_next f i
  have nr := h.near
  have le := h.le
  unfold pl at w0 tn
  obtain ⟨r, er⟩ : ∃ r, pcw (f i) (f (i + 1)) = r := ⟨_, rfl⟩
  rw [er] at hw hs w0 tn ⊢
  have t : (64 : Rat) ≤ top := by decide +kernel
  obtain ⟨T, eT⟩ : ∃ T : Rat, top = T := ⟨_, rfl⟩
  rw [eT] at t
  obtain ⟨y, y1, y2⟩ := fsub h.fin hw (by rw [eT]; grind) (by rw [eT]; grind)
  have g0 := y2.ge_int 0 (by decide) (by rw [Rat.intCast_zero]; grind)
  rw [Rat.intCast_zero] at g0
  have e64 : ((64 : Int) : Rat) = 64 := rfl
  have g1 := y2.le_int 64 (by decide) (by rw [e64]; grind)
  rw [e64] at g1
  have m := y2.near32 6 (by decide) (by decide) (by rw [p2_6]; grind) (by rw [p2_6]; grind)
  rw [show (6 : Int) - 24 = -18 by decide, p2_m18] at m
  refine ⟨y, y1, ⟨by omega, y2.fin, g0, g1, ?_⟩⟩
  rw [show i + 1 + 1 = i + 2 by omega, tn]
  have e : ((i + 2 : Nat) : Rat) = ((i + 1 : Nat) : Rat) + 1 := by rw [show i + 2 = (i + 1) + 1 by omega, Rat.natCast_add (i + 1) 1]; rfl
  rw [e]
  generalize ((i + 1 : Nat) : Rat) = d at *
  generalize tsum f (i + 1) = q at *
  clear h hp hw tn
  unfold InR at *
  constructor <;> grind
/-- The line's length against its pieces. -/
structure Lng (f : Nat → Nat × Nat) (n l : Nat) : Prop where
  fin : Fl .f32 l
  lo : 1 / 16 ≤ Num.fv .f32 l
  hi : Num.fv .f32 l ≤ 60
  near : InR (Num.fv .f32 l - tsum f n) (6 * del)
theorem EvS.stop {f : Nat → Nat × Nat} {n i x k l : Nat} (h : EvS f n (Num.fv .f32 l * ((k : Rat) / 8)) i x) (hl : Lng f n l) (hn : n ≤ 7) (hk : k < 8) (hw : i + 2 = n) : Num.fv .f32 x < pl f i := by
  have nr := h.near
  have tn := tsum_next f i
  rw [hw] at tn
  have ln := hl.near
  have lo := hl.lo
  rw [tn] at ln
  have b1 : Num.fv .f32 l * ((k : Rat) / 8) ≤ Num.fv .f32 l * (7 / 8) := by
    refine Rat.mul_le_mul_of_nonneg_left ?_ (by grind)
    have h8 : (k : Rat) ≤ ((7 : Nat) : Rat) := Rat.natCast_le_natCast.2 (by omega)
    have e8n : ((7 : Nat) : Rat) = 7 := rfl
    rw [e8n] at h8
    have hd : (k : Rat) / 8 = (k : Rat) * (1 / 8) := by
      rw [Rat.div_def]
      have e : (8 : Rat)⁻¹ = 1 / 8 := by decide +kernel
      rw [e]
    rw [hd]
    grind
  have hi6 : ((i + 1 : Nat) : Rat) ≤ ((6 : Nat) : Rat) := Rat.natCast_le_natCast.2 (by omega)
  have e6 : ((6 : Nat) : Rat) = 6 := rfl
  rw [e6] at hi6
  generalize Num.fv .f32 l * ((k : Rat) / 8) = V at *
  generalize ((i + 1 : Nat) : Rat) = d at *
  generalize tsum f (i + 1) = q at *
  generalize pl f i = p at *
  clear h hl tn
  unfold InR del at *
  grind
/-- The words of the point. -/
theorem point_ex {f : Nat → Nat × Nat} {n i x : Nat} {v : Rat} (h : EvS f n v i x) (hf : ∀ i, i < n → Cb ((2 : Nat) : Rat) (f i)) (hx : Num.fv .f32 x < pl f i) :
    ∃ u t p m1 m2 z1 z2, floatBits .sub .f32 (f (i + 1)).1 (f i).1 = some u ∧ floatBits .sub .f32 (f (i + 1)).2 (f i).2 = some t ∧ floatBits .quo .f32 x (pcw (f i) (f (i + 1))) = some p ∧ floatBits .mul .f32 u p = some m1 ∧ floatBits .mul .f32 t p = some m2 ∧ floatBits .add .f32 (f i).1 m1 = some z1 ∧ floatBits .add .f32 (f i).2 m2 = some z2 ∧
      EvP f n i (Num.fv .f32 x) (Num.fv .f32 p) (z1, z2) ∧ Fl .f32 z1 ∧ Fl .f32 z2 := by
  have m16 : ((2 : Nat) : Rat) ≤ ((16 : Nat) : Rat) := Rat.natCast_le_natCast.2 (by omega)
  have ci := hf i (by have := h.hi; omega)
  have cj := hf (i + 1) h.hi
  have P := pcw_ok (ci.mono m16) (cj.mono m16)
  have P6 := P.int 2 (by omega) ci cj
  have e6 : ((3 * 2 : Nat) : Rat) = 6 := rfl
  rw [e6] at P6
  unfold pl at hx
  have pf := P.fin
  obtain ⟨u, t, u1, t1, _, du, dt, fu, ft⟩ := P.words
  obtain ⟨r, er⟩ : ∃ r, pcw (f i) (f (i + 1)) = r := ⟨_, rfl⟩
  have hx0 := h.nn
  have epl : pl f i = Num.fv .f32 r := by unfold pl; rw [er]
  rw [er] at hx pf P6 ⊢
  have hr0 : 0 < Num.fv .f32 r := by grind
  have hrn : Num.fv .f32 r ≠ 0 := by grind
  obtain ⟨Q, eQ⟩ : ∃ Q, Num.fv .f32 x / Num.fv .f32 r = Q := ⟨_, rfl⟩
  have hQ : Q * Num.fv .f32 r = Num.fv .f32 x := by rw [← eQ]; exact Rat.div_mul_cancel hrn
  have Q0 : 0 ≤ Q := by
    rcases (Rat.le_total : 0 ≤ Q ∨ Q ≤ 0) with c | c
    · exact c
    · by_cases e : Q = 0
      · rw [e]; exact Rat.le_refl
      · have := Rat.mul_pos (show 0 < -Q by grind) hr0
        grind
  have Q1 : Q ≤ 1 := by
    rcases (Rat.le_total : Q ≤ 1 ∨ 1 ≤ Q) with c | c
    · exact c
    · have := Rat.mul_le_mul_of_nonneg_right c (show 0 ≤ Num.fv .f32 r by grind)
      grind
  have tt : (64 : Rat) ≤ top := by decide +kernel
  obtain ⟨T, eT⟩ : ∃ T : Rat, top = T := ⟨_, rfl⟩
  rw [eT] at tt
  obtain ⟨p, p1, p2'⟩ := fdiv h.fin pf hrn (by rw [eT, eQ]; grind) (by rw [eT, eQ]; grind)
  rw [eQ] at p2'
  have g0 := p2'.ge_int 0 (by decide) (by rw [Rat.intCast_zero]; exact Q0)
  rw [Rat.intCast_zero] at g0
  have e1 : ((1 : Int) : Rat) = 1 := rfl
  have g1 := p2'.le_int 1 (by decide) (by rw [e1]; exact Q1)
  rw [e1] at g1
  have m := p2'.near32 0 (by decide) (by decide) (by rw [p2_0]; exact Q1) (by rw [p2_0]; grind)
  rw [show (0 : Int) - 24 = -24 by decide, p2_m24] at m
  have fp := p2'.fin
  have AW : InR (Num.fv .f32 p * Num.fv .f32 r - Num.fv .f32 x) ee := by
    have a1 := Rat.mul_le_mul_of_nonneg_right m.1 (show 0 ≤ Num.fv .f32 r by grind)
    have a2 := Rat.mul_le_mul_of_nonneg_right m.2 (show 0 ≤ Num.fv .f32 r by grind)
    have e1 : (Q + 1 / 16777216) * Num.fv .f32 r = Num.fv .f32 x + Num.fv .f32 r * (1 / 16777216) := by rw [← hQ]; grind
    have e2 : (Num.fv .f32 p + 1 / 16777216) * Num.fv .f32 r = Num.fv .f32 p * Num.fv .f32 r + Num.fv .f32 r * (1 / 16777216) := by grind
    rw [e1] at a1
    rw [e2, hQ] at a2
    generalize Num.fv .f32 p * Num.fv .f32 r = q at *
    clear h P hQ m eQ p2' du dt
    unfold InR ee
    constructor <;> grind
  have one : ∀ {a b u z : Nat}, Fl .f32 u → Fl .f32 a → InR (Num.fv .f32 a) ((2 : Nat) : Rat) → InR (Num.fv .f32 b) ((2 : Nat) : Rat) → InR (Num.fv .f32 u - (Num.fv .f32 b - Num.fv .f32 a)) (1 / 524288) →
      ∃ m1 z1, floatBits .mul .f32 u p = some m1 ∧ floatBits .add .f32 a m1 = some z1 ∧ Fl .f32 z1 ∧ InR (Num.fv .f32 z1 - (Num.fv .f32 a + Num.fv .f32 p * (Num.fv .f32 b - Num.fv .f32 a))) ez := fun {a b u z} fu fa ha hb hd => by
    have e2 : ((2 : Nat) : Rat) = 2 := rfl
    rw [e2] at ha hb
    have bu : InR (Num.fv .f32 u) 5 := by unfold InR at *; constructor <;> grind
    have a1 := Rat.mul_le_mul_of_nonneg_right bu.1 g0
    have a2 := Rat.mul_le_mul_of_nonneg_right bu.2 g0
    obtain ⟨m1, k1, k2⟩ := fmul fu fp (by rw [eT]; grind) (by rw [eT]; grind)
    have e6 : ((6 : Int) : Rat) = 6 := rfl
    have e6' : ((-6 : Int) : Rat) = -6 := rfl
    have l1 := k2.le_int 6 (by decide) (by rw [e6]; grind)
    have l2 := k2.ge_int (-6) (by decide) (by rw [e6']; grind)
    rw [e6] at l1
    rw [e6'] at l2
    have n1 := k2.near32 3 (by decide) (by decide) (by rw [p2_3]; grind) (by rw [p2_3]; grind)
    rw [show (3 : Int) - 24 = -21 by decide, p2_m21] at n1
    obtain ⟨z1, k3, k4⟩ := fadd fa k2.fin (by rw [eT]; unfold InR at ha; grind) (by rw [eT]; unfold InR at ha; grind)
    have n2 := k4.near32 4 (by decide) (by decide) (by rw [p2_4]; unfold InR at ha; grind) (by rw [p2_4]; unfold InR at ha; grind)
    rw [show (4 : Int) - 24 = -20 by decide, p2_m20] at n2
    refine ⟨m1, z1, k1, k3, k4.fin, ?_⟩
    have b1 := Rat.mul_le_mul_of_nonneg_right hd.1 g0
    have b2 := Rat.mul_le_mul_of_nonneg_right hd.2 g0
    generalize Num.fv .f32 a = A at *
    generalize Num.fv .f32 b = B at *
    generalize Num.fv .f32 u = U at *
    generalize Num.fv .f32 p = D at *
    generalize Num.fv .f32 m1 = M at *
    generalize Num.fv .f32 z1 = Z at *
    have e3 : (U - (B - A)) * D = U * D - D * (B - A) := by grind
    rw [e3] at b1 b2
    generalize U * D = q at *
    generalize D * (B - A) = q' at *
    clear h P hQ m eQ p2' du dt AW k2 k4 epl ci cj hf
    unfold InR ez at *
    constructor <;> grind
  obtain ⟨m1, z1, k1, k2, k3, k4⟩ := one (z := 0) fu ci.1 ci.2.2.1 cj.2.2.1 du
  obtain ⟨m2, z2, j1, j2, j3, j4⟩ := one (z := 0) ft ci.2.1 ci.2.2.2 cj.2.2.2 dt
  exact ⟨u, t, p, m1, m2, z1, z2, u1, t1, p1, k1, j1, k2, j2, ⟨h.hi, hx0, by rw [epl]; exact Rat.le_of_lt hx, g0, g1, by rw [epl]; exact AW, k4, j4⟩, k3, j3⟩
theorem ifPoints_w {B : Rat} (f : Nat → Nat × Nat) (A : Option Addr) (n c : Nat) (w : World) (hn2 : n ≤ 256) (hP : ∀ k, k < n → Cb B (f k)) (hA : Rd w w.heap.size 1 A n ((List.range n).map (fun i => cxv (f i)))) :
    Calls Try.prog 61 #[.slice A n c] w fun e w' => e = .returned (.tuple #[.slice A n c, .bool true]) ∧ w' = w := by
  have AF := Lib.hid (arePoints_w f A n c w hn2 hP hA)
  clear hP hA
  go_enter Try.func61, Try.ntmps61
  go_wp2_with fail
  refine AF.out.mono ?_
  rintro e w1 ⟨rfl, rfl⟩
  go_wp2
  go_ret2
  exact ⟨rfl, rfl⟩
/-- The even points so far. -/
def EvL (f : Nat → Nat × Nat) (n l : Nat) (k : Nat) (L : List (Nat × Nat)) : Prop := L.length = k ∧ ∀ j, j < k → ∃ i s a, EvP f n i s a (L.getD j (0, 0)) ∧ Fl .f32 (L.getD j (0, 0)).1 ∧ Fl .f32 (L.getD j (0, 0)).2 ∧ InR (tsum f (i + 1) + s - Num.fv .f32 l * ((j : Rat) / 8)) (1 / 32768)
theorem EvL.next {f : Nat → Nat × Nat} {n l k i x : Nat} {a : Rat} {z : Nat × Nat} {L : List (Nat × Nat)} (h : EvL f n l k L) (s : EvS f n (Num.fv .f32 l * ((k : Rat) / 8)) i x) (hn : n ≤ 7) (p : EvP f n i (Num.fv .f32 x) a z) (f1 : Fl .f32 z.1) (f2 : Fl .f32 z.2) : EvL f n l (k + 1) (L ++ [z]) := by
  refine ⟨by rw [List.length_append, h.1]; rfl, fun j hj => ?_⟩
  by_cases c : j < k
  · have e : (L ++ [z]).getD j (0, 0) = L.getD j (0, 0) := by
      rw [List.getD_eq_getElem?_getD, List.getD_eq_getElem?_getD, List.getElem?_append_left (by rw [h.1]; exact c)]
    rw [e]
    exact h.2 j c
  · obtain rfl : j = k := by omega
    have e : (L ++ [z]).getD j (0, 0) = z := by
      rw [List.getD_eq_getElem?_getD, List.getElem?_append_right (by rw [h.1]; exact Nat.le_refl _), h.1, Nat.sub_self]
      rfl
    rw [e]
    refine ⟨i, _, a, p, f1, f2, ?_⟩
    have nr := s.near
    have hi6 : ((i + 1 : Nat) : Rat) ≤ ((6 : Nat) : Rat) := Rat.natCast_le_natCast.2 (by have := s.hi; omega)
    have e6 : ((6 : Nat) : Rat) = 6 := rfl
    rw [e6] at hi6
    generalize ((i + 1 : Nat) : Rat) = d at *
    clear h s p
    unfold InR at *
    constructor <;> grind
theorem EvL.done {f : Nat → Nat × Nat} {n l : Nat} {L : List (Nat × Nat)} (h : EvL f n l 8 L) : Evs f (fun i => (L ++ [f (n - 1)]).getD i (0, 0)) n (Num.fv .f32 l) 8 := by
  refine ⟨fun j hj => ?_, ?_⟩
  · have e : (L ++ [f (n - 1)]).getD j (0, 0) = L.getD j (0, 0) := by
      rw [List.getD_eq_getElem?_getD, List.getD_eq_getElem?_getD, List.getElem?_append_left (by rw [h.1]; exact hj)]
    show ∃ i s a, EvP f n i s a ((L ++ [f (n - 1)]).getD j (0, 0)) ∧ Fl .f32 ((L ++ [f (n - 1)]).getD j (0, 0)).1 ∧ Fl .f32 ((L ++ [f (n - 1)]).getD j (0, 0)).2 ∧ _
    rw [e]
    exact h.2 j hj
  · show (L ++ [f (n - 1)]).getD 8 (0, 0) = _
    rw [List.getD_eq_getElem?_getD, List.getElem?_append_right (by rw [h.1]; exact Nat.le_refl _), h.1, Nat.sub_self]
    rfl
theorem Evs.cb {f g : Nat → Nat × Nat} {n : Nat} {l : Rat} (h : Evs f g n l 8) (hn : 2 ≤ n) (hf : ∀ i, i < n → Cb ((2 : Nat) : Rat) (f i)) : ∀ k, k < 9 → Cb ((9 : Nat) : Rat) (g k) := fun k hk => by
  by_cases c : k < 8
  · obtain ⟨i, s, a, p, f1, f2, _⟩ := h.pt k c
    exact p.cb (pcs_of hf) hf f1 f2
  · obtain rfl : k = 8 := by omega
    rw [h.last]
    exact (hf (n - 1) (by omega)).mono (Rat.natCast_le_natCast.2 (by omega))
theorem subtract_w {a1 a2 b1 b2 u v : Nat} (h1 : floatBits .sub .f32 b1 a1 = some u) (h2 : floatBits .sub .f32 b2 a2 = some v) (w : World) : Calls Try.prog 51 #[.complex .f32 b1 b2, .complex .f32 a1 a2] w fun e w' => e = .returned (.complex .f32 u v) ∧ w' = w := by
  have q1 := r32 h1
  have q2 := r32 h2
  go_enter Try.func51, Try.ntmps51
  go_wp2
  go_ret
  exact ⟨rfl, rfl⟩
theorem add_w {a1 a2 b1 b2 u v : Nat} (h1 : floatBits .add .f32 b1 a1 = some u) (h2 : floatBits .add .f32 b2 a2 = some v) (w : World) : Calls Try.prog 41 #[.complex .f32 b1 b2, .complex .f32 a1 a2] w fun e w' => e = .returned (.complex .f32 u v) ∧ w' = w := by
  have q1 := r32 h1
  have q2 := r32 h2
  go_enter Try.func41, Try.ntmps41
  go_wp2
  go_ret
  exact ⟨rfl, rfl⟩
theorem scale_w {a1 a2 p u v : Nat} (h1 : floatBits .mul .f32 a1 p = some u) (h2 : floatBits .mul .f32 a2 p = some v) (w : World) : Calls Try.prog 43 #[.complex .f32 a1 a2, .float .f32 p] w fun e w' => e = .returned (.complex .f32 u v) ∧ w' = w := by
  have q1 := r32 h1
  have q2 := r32 h2
  go_enter Try.func43, Try.ntmps43
  go_wp2
  go_ret
  exact ⟨rfl, rfl⟩
end Go.Proofs.Ytkldgcgijkfpaaa

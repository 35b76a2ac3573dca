/- Plain law: the range of a drawn sheet; what its norm is, and how it is led back; gaps of singles. Conditions: a sheet that was drawn. -/
import Derived.Test.YtoibgpmpngccjaaSln
namespace Go.Proofs.Ytoibgpmpngccjaa
open Go.RowKit
open Num Quick

theorem gap_wide {x s : Nat} (hx : Fl .f32 x) (hs : Fl .f32 s) (h : InR (Num.fv .f32 x - Num.fv .f32 s) (1 / 256)) : ∃ y z g, qwide x = some y ∧ qwide s = some z ∧ (∀ w : World, Calls Try.prog 15 #[.float .f64 y, .float .f64 z] w fun e w' => e = .returned (.float .f64 g) ∧ w' = w) ∧ (FloatKind.f64.format.order g 4576918229304087675 == some .gt) = false := by
  obtain ⟨y, y1, y2, _, y4⟩ := fwide hx
  obtain ⟨z, z1, z2, _, z4⟩ := fwide hs
  obtain ⟨g, g1, g2⟩ := gap_calls y2 z2 (by rw [y4, z4]; unfold InR at *; constructor <;> grind)
  exact ⟨y, z, g, y1, z1, g1, g2⟩
theorem range_facts {W H N : Nat} {xs : List Nat} {ms : Nat → Int} (h : Drawn W H N xs ms) : ∃ (ml mh : Int) (dw : Nat), Gn 2 ml (loF xs N) ∧ Gn 2 mh (hiF xs N) ∧ ml ≤ mh ∧ (mh - ml).natAbs ≤ 32 ∧ floatBits .sub .f32 (hiF xs N) (loF xs N) = some dw ∧ Gn 2 (mh - ml) dw ∧
    (∀ k, k < N → ml ≤ ms k ∧ ms k ≤ mh) ∧ (∃ i, i < N ∧ ms i = ml) ∧ (∃ j, j < N ∧ ms j = mh) := by
  have hf : ∀ k, k < N → Fl .f32 (xs.getD k 0) := fun k hk => (h.gn k hk).fin
  obtain ⟨⟨i, hi, ei⟩, hlo⟩ := loF_ok hf h.n1 N (Nat.le_refl _)
  obtain ⟨⟨j, hj, ej⟩, hhi⟩ := hiF_ok hf h.n1 N (Nat.le_refl _)
  have gi := h.gn i hi
  have gj := h.gn j hj
  rw [← ei] at gi
  rw [← ej] at gj
  have key1 : ∀ k, k < N → ms i ≤ ms k := fun k hk => by
    have a := hlo k hk
    rw [gi.val, (h.gn k hk).val] at a
    have := mt (frac_lt 2 (ms k) (ms i)).2 (Rat.not_lt.2 a)
    omega
  have key2 : ∀ k, k < N → ms k ≤ ms j := fun k hk => by
    have a := hhi k hk
    rw [gj.val, (h.gn k hk).val] at a
    have := mt (frac_lt 2 (ms j) (ms k)).2 (Rat.not_lt.2 a)
    omega
  have m1 := h.ms i hi
  have m2 := h.ms j hj
  obtain ⟨dw, d1, d2⟩ := gj.sub gi (by omega) (by omega)
  exact ⟨ms i, ms j, dw, gi, gj, key1 j hj, by omega, d1, d2, fun k hk => ⟨key1 k hk, key2 k hk⟩, ⟨i, hi, rfl⟩, ⟨j, hj, rfl⟩⟩
theorem norm_facts {W H N : Nat} {xs : List Nat} {ms : Nat → Int} {ml mh : Int} {dw lo : Nat} (h : Drawn W H N xs ms) (hl : Gn 2 ml lo) (hlt : ml < mh) (h32 : (mh - ml).natAbs ≤ 32) (hd : Gn 2 (mh - ml) dw)
    (hb : ∀ k, k < N → ml ≤ ms k ∧ ms k ≤ mh) (hi : ∃ i, i < N ∧ ms i = ml) (hj : ∃ j, j < N ∧ ms j = mh) :
    ∃ ys bs : List Nat, ys.length = N ∧ bs.length = N ∧ ys.all finW = true ∧ bs.all finW = true ∧ (∀ k, k < N → ∃ u, floatBits .sub .f32 (xs.getD k 0) lo = some u ∧ floatBits .quo .f32 u dw = some (ys.getD k 0)) ∧
      (∀ k, k < N → ∃ p q, floatBits .mul .f32 dw (ys.getD k 0) = some p ∧ floatBits .mul .f32 0 (ys.getD k 0) = some q ∧ floatBits .add .f32 p q = some (bs.getD k 0)) ∧
      (FloatKind.f32.format.order (loF ys N) 0 != some .eq) = false ∧ (FloatKind.f32.format.order (hiF ys N) 1065353216 != some .eq) = false ∧
      (∀ k, k < N → ∃ wb wl sm wx g, qwide (bs.getD k 0) = some wb ∧ qwide lo = some wl ∧ floatBits .add .f64 wb wl = some sm ∧ qwide (xs.getD k 0) = some wx ∧ (∀ w : World, Calls Try.prog 15 #[.float .f64 sm, .float .f64 wx] w fun e w' => e = .returned (.float .f64 g) ∧ w' = w) ∧ (FloatKind.f64.format.order g 4576918229304087675 == some .gt) = false) := by
  have key : ∀ k, k < N → ∃ y, ∃ u, floatBits .sub .f32 (xs.getD k 0) lo = some u ∧ Gn 2 (ms k - ml) u ∧ floatBits .quo .f32 u dw = some y ∧ Fl .f32 y ∧ 0 ≤ Num.fv .f32 y ∧ Num.fv .f32 y ≤ 1 ∧ (ms k = ml → Num.fv .f32 y = 0) ∧ (ms k = mh → Num.fv .f32 y = 1) ∧
      ∃ p q r, floatBits .mul .f32 dw y = some p ∧ floatBits .mul .f32 0 y = some q ∧ floatBits .add .f32 p q = some r ∧ Fl .f32 r ∧ InR (Num.fv .f32 r - Num.fv .f32 u) dl := fun k hk => by
    obtain ⟨b1, b2⟩ := hb k hk
    have m1 := h.ms k hk
    obtain ⟨u, u1, u2⟩ := (h.gn k hk).sub hl (by omega) (by omega)
    obtain ⟨y, y1, y2, y3, y4, y5, y6, y7⟩ := norm_one u2 hd b1 b2 hlt h32
    exact ⟨y, u, u1, u2, y1, y2, y3, y4, y5, y6, y7⟩
  obtain ⟨ys, hly, hys⟩ := list_of N _ key
  have key2 : ∀ k, k < N → ∃ r, ∃ p q u, floatBits .sub .f32 (xs.getD k 0) lo = some u ∧ Gn 2 (ms k - ml) u ∧ floatBits .mul .f32 dw (ys.getD k 0) = some p ∧ floatBits .mul .f32 0 (ys.getD k 0) = some q ∧ floatBits .add .f32 p q = some r ∧ Fl .f32 r ∧ InR (Num.fv .f32 r - Num.fv .f32 u) dl := fun k hk => by
    obtain ⟨u, u1, u2, _, _, _, _, _, _, p, q, r, r1, r2, r3, r4, r5⟩ := hys k hk
    exact ⟨r, p, q, u, u1, u2, r1, r2, r3, r4, r5⟩
  obtain ⟨bs, hlb, hbs⟩ := list_of N _ key2
  have hfy : ∀ k, k < N → Fl .f32 (ys.getD k 0) := fun k hk => by
    obtain ⟨u, _, _, _, f, _⟩ := hys k hk
    exact f
  have all_of : ∀ zs : List Nat, zs.length = N → (∀ k, k < N → Fl .f32 (zs.getD k 0)) → zs.all finW = true := fun zs hl hz => by
    rw [List.all_eq_true]
    intro x hx
    obtain ⟨k, hk, e⟩ := List.mem_iff_getElem.1 hx
    have := hz k (by omega)
    rw [List.getD_eq_getElem?_getD, List.getElem?_eq_getElem hk] at this
    rw [← e]
    exact fin_fl this
  refine ⟨ys, bs, hly, hlb, all_of ys hly hfy, all_of bs hlb (fun k hk => ?_), fun k hk => ?_, fun k hk => ?_, ?_, ?_, fun k hk => ?_⟩
  · obtain ⟨p, q, u, _, _, _, _, _, f, _⟩ := hbs k hk
    exact f
  · obtain ⟨u, u1, _, y1, _⟩ := hys k hk
    exact ⟨u, u1, y1⟩
  · obtain ⟨p, q, u, _, _, r1, r2, r3, _⟩ := hbs k hk
    exact ⟨p, q, r1, r2, r3⟩
  · obtain ⟨⟨i, hi', ei⟩, hlo⟩ := loF_ok hfy h.n1 N (Nat.le_refl _)
    obtain ⟨a, ha, ea⟩ := hi
    obtain ⟨_, _, _, _, f, y0, _⟩ := hys i hi'
    obtain ⟨_, _, _, _, _, _, _, z0, _⟩ := hys a ha
    have l1 := hlo a ha
    rw [z0 ea] at l1
    rw [← ei] at y0 f
    rw [cmp_eq' f c0.1 (by rw [c0.2]; exact Rat.le_antisymm l1 y0)]
    decide
  · obtain ⟨⟨i, hi', ei⟩, hlo⟩ := hiF_ok hfy h.n1 N (Nat.le_refl _)
    obtain ⟨a, ha, ea⟩ := hj
    obtain ⟨_, _, _, _, f, _, y1, _⟩ := hys i hi'
    obtain ⟨_, _, _, _, _, _, _, _, z1, _⟩ := hys a ha
    have l1 := hlo a ha
    rw [z1 ea] at l1
    rw [← ei] at y1 f
    rw [cmp_eq' f c1.1 (by rw [c1.2]; exact Rat.le_antisymm y1 l1)]
    decide
  · obtain ⟨p, q, u, u1, u2, _, _, _, f, hr⟩ := hbs k hk
    obtain ⟨wb, b1, b2, _, b4⟩ := fwide f
    obtain ⟨wl, l1, l2, _, l4⟩ := fwide hl.fin
    obtain ⟨wx, x1, x2, _, x4⟩ := fwide (h.gn k hk).fin
    have vu := u2.val
    have vl := hl.val
    have vx := (h.gn k hk).val
    have p4 : ((2 ^ 2 : Nat) : Rat) = 4 := rfl
    rw [p4] at vu vl vx
    rw [Rat.intCast_sub] at vu
    have bx : InR (Num.fv .f32 (xs.getD k 0)) 4 := (h.hs k (by rw [h.len]; exact hk)).2
    have hdl : dl ≤ 1 / 1000 := by decide +kernel
    have hv : Num.fv .f32 u = Num.fv .f32 (xs.getD k 0) - Num.fv .f32 lo := by rw [vu, vl, vx]; grind
    rw [hv] at hr
    have i5 : InR (Num.fv .f64 wb + Num.fv .f64 wl) 8 := by
      rw [b4, l4]
      generalize Num.fv .f32 (bs.getD k 0) = R at *
      generalize Num.fv .f32 (xs.getD k 0) = X at *
      generalize Num.fv .f32 lo = L at *
      generalize dl = D at *
      unfold InR at *
      constructor <;> grind
    have t : (8 : Rat) ≤ top := by decide +kernel
    obtain ⟨sm, s1, s2⟩ := fadd b2 l2 (by unfold InR at i5; generalize top = T at *; grind) (by unfold InR at i5; generalize top = T at *; grind)
    have n1 := s2.near64 3 (by decide) (by decide) (by rw [show p2 3 = 8 by decide +kernel]; exact i5.1) (by rw [show p2 3 = 8 by decide +kernel]; exact i5.2)
    have hp : p2 (3 - 53) ≤ 1 / 1000 := by decide +kernel
    obtain ⟨g, g1, g2⟩ := gap_calls s2.fin x2 (by
      rw [x4]
      rw [b4, l4] at n1
      generalize Num.fv .f64 sm = M at *
      generalize Num.fv .f32 (bs.getD k 0) = R at *
      generalize Num.fv .f32 (xs.getD k 0) = X at *
      generalize Num.fv .f32 lo = L at *
      generalize dl = D at *
      generalize p2 (3 - 53) = E at *
      unfold InR at *
      constructor <;> grind)
    exact ⟨wb, wl, sm, wx, g, b1, l1, s1, x1, g1, g2⟩
end Go.Proofs.Ytoibgpmpngccjaa

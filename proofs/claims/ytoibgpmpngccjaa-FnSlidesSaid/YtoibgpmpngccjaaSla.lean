/- Plain law: a drop keeps heights within their bound, and all of it together, nearly. Conditions: heights at most 5, at most 128 steps. -/
import Derived.Test.YtoibgpmpngccjaaHp
import Derived.Test.YtoibgpmpngccjaaMe
namespace Go.Proofs.Ytoibgpmpngccjaa
open Go.RowKit
open Num Quick

theorem fin_fl {x : Nat} (h : Fl .f32 x) : finW x = true := by
  obtain ⟨s, m, p, h1, _⟩ := read_fin _ h
  exact finW_iff.2 ⟨s, m, p, h1⟩
/-- The least step of our errors. -/
abbrev dl : Rat := 1 / 1048576
theorem near_to {v B d : Rat} {w : Nat} (h : Num.FR .f32 v w) (e : Int) (h1 : -125 ≤ e) (h2 : e ≤ 100) (hB : p2 e = B) (hd : p2 (e - 24) = d) (hv : InR v B) : Num.fv .f32 w ≤ v + d ∧ v ≤ Num.fv .f32 w + d := by
  have := h.near32 e h1 h2 (by rw [hB]; exact hv.1) (by rw [hB]; exact hv.2)
  rw [hd] at this
  exact this
theorem near_16 {v : Rat} {w : Nat} (h : Num.FR .f32 v w) (hv : InR v 16) : Num.fv .f32 w ≤ v + dl ∧ v ≤ Num.fv .f32 w + dl := near_to h 4 (by decide) (by decide) (by decide +kernel) (by decide +kernel) hv
theorem in_top16 {v : Rat} (hv : InR v 16) : v ≤ top ∧ -top ≤ v := by
  have h : (16 : Rat) ≤ top := by decide +kernel
  unfold InR at hv
  generalize top = t at h ⊢
  constructor <;> grind
theorem fr_add {x y r : Nat} (h : FR .add x y r) (hx : Fl .f32 x) (hy : Fl .f32 y) (hv : InR (Num.fv .f32 x + Num.fv .f32 y) 16) : Num.FR .f32 (Num.fv .f32 x + Num.fv .f32 y) r := by
  obtain ⟨q, h1, h2⟩ := fadd hx hy (in_top16 hv).1 (in_top16 hv).2
  rcases h with h | ⟨h, _⟩
  · have := h1.symm.trans h
    injection this with this
    rw [← this]
    exact h2
  · have := h1.symm.trans h
    cases this
theorem fr_sub {x y r : Nat} (h : FR .sub x y r) (hx : Fl .f32 x) (hy : Fl .f32 y) (hv : InR (Num.fv .f32 x - Num.fv .f32 y) 16) : Num.FR .f32 (Num.fv .f32 x - Num.fv .f32 y) r := by
  obtain ⟨q, h1, h2⟩ := fsub hx hy (in_top16 hv).1 (in_top16 hv).2
  rcases h with h | ⟨h, _⟩
  · have := h1.symm.trans h
    injection this with this
    rw [← this]
    exact h2
  · have := h1.symm.trans h
    cases this
theorem fr_mul {x y r : Nat} (h : FR .mul x y r) (hx : Fl .f32 x) (hy : Fl .f32 y) (hv : InR (Num.fv .f32 x * Num.fv .f32 y) 16) : Num.FR .f32 (Num.fv .f32 x * Num.fv .f32 y) r := by
  obtain ⟨q, h1, h2⟩ := fmul hx hy (in_top16 hv).1 (in_top16 hv).2
  rcases h with h | ⟨h, _⟩
  · have := h1.symm.trans h
    injection this with this
    rw [← this]
    exact h2
  · have := h1.symm.trans h
    cases this
/-- All heights together. -/
def msum : List Nat → Rat
  | [] => 0
  | x :: L => Num.fv .f32 x + msum L
theorem msum_set : ∀ (L : List Nat) (k x : Nat), k < L.length → msum (L.set k x) = msum L - Num.fv .f32 (L.getD k 0) + Num.fv .f32 x
  | [], _, _, h => absurd h (by simp)
  | y :: L, 0, x, _ => by
    simp only [List.set_cons_zero, msum, List.getD_cons_zero]
    grind
  | y :: L, k + 1, x, h => by
    have := msum_set L k x (by simpa using h)
    simp only [List.set_cons_succ, msum, List.getD_cons_succ, this]
    grind
theorem msum_append : ∀ (L M : List Nat), msum (L ++ M) = msum L + msum M
  | [], M => by simp only [List.nil_append, msum]; grind
  | x :: L, M => by
    have := msum_append L M
    simp only [List.cons_append, msum, this]
    grind
theorem get_set_eq {H : List Nat} {a x : Nat} (h : a < H.length) : (H.set a x).getD a 0 = x := by
  rw [List.getD_eq_getElem?_getD, List.getElem?_set_self h]; rfl
theorem get_set_ne {H : List Nat} {a k x : Nat} (h : a ≠ k) : (H.set a x).getD k 0 = H.getD k 0 := by
  rw [List.getD_eq_getElem?_getD, List.getD_eq_getElem?_getD, List.getElem?_set_ne h]
/-- Heights are finite and within a bound. -/
def HsOk (B : Rat) (H : List Nat) : Prop := ∀ k, k < H.length → Fl .f32 (H.getD k 0) ∧ InR (Num.fv .f32 (H.getD k 0)) B
theorem HsOk.mono {B C : Rat} {H : List Nat} (h : HsOk B H) (hB : B ≤ C) : HsOk C H := fun k hk => ⟨(h k hk).1, by have := (h k hk).2; unfold InR at *; constructor <;> grind⟩
theorem HsOk.all {B : Rat} {H : List Nat} (h : HsOk B H) : H.all finW = true := by
  rw [List.all_eq_true]
  intro x hx
  obtain ⟨k, hk, e⟩ := List.mem_iff_getElem.1 hx
  have := (h k hk).1
  rw [List.getD_eq_getElem?_getD, List.getElem?_eq_getElem hk] at this
  rw [← e]
  exact fin_fl this
theorem HsOk.set {B : Rat} {H : List Nat} (h : HsOk B H) {a x : Nat} (hx : Fl .f32 x) (hv : InR (Num.fv .f32 x) B) : HsOk B (H.set a x) := by
  intro k hk
  rw [List.length_set] at hk
  by_cases e : a = k
  · subst e
    rw [get_set_eq hk]
    exact ⟨hx, hv⟩
  · rw [get_set_ne e]
    exact h k hk
/-- What stands while a drop runs: q is what was rounded so far. -/
structure DrI (B q m0 : Rat) (H : List Nat) (a c : Nat) : Prop where
  hs : HsOk (B + 8 * q) H
  fc : Fl .f32 c
  c0 : 0 ≤ Num.fv .f32 c
  c1 : 2 * Num.fv .f32 c ≤ B - Num.fv .f32 (H.getD a 0) + 8 * q
  mass : InR (msum H + Num.fv .f32 c - m0) (6 * q)
theorem mul_box {x y X Y : Rat} (h0 : 0 ≤ x) (h1 : x ≤ X) (h2 : 0 ≤ y) (h3 : y ≤ Y) : 0 ≤ x * y ∧ x * y ≤ X * y := by
  refine ⟨Rat.mul_nonneg h0 h2, Rat.mul_le_mul_of_nonneg_right h1 h2⟩
theorem dri_step {B q m0 : Rat} {tk lv a c low c' : Nat} {H H' : List Nat} (h : DrI B q m0 H a c) (ha : a < H.length) (hl : low < H.length) (hlt : Num.fv .f32 (H.getD low 0) < Num.fv .f32 (H.getD a 0)) (hB : B ≤ 5) (hq : 0 ≤ q) (hq1 : q ≤ 1 / 1000)
    (ht : Fl .f32 tk) (ht0 : 0 ≤ Num.fv .f32 tk) (ht1 : Num.fv .f32 tk ≤ 1 / 2) (hlv : Fl .f32 lv) (hv0 : 0 ≤ Num.fv .f32 lv) (hv1 : Num.fv .f32 lv ≤ 1) (hs : StepR tk lv H a low c H' c') : DrI B (q + dl) m0 H' low c' := by
  obtain ⟨d, t, h1, c1, l, h2, s1, s2, s3, s4, s5, s6, s7, rfl⟩ := hs
  have hne : a ≠ low := by
    intro e
    rw [e] at hlt
    exact Rat.lt_irrefl hlt
  obtain ⟨fx, bx⟩ := h.hs a ha
  obtain ⟨fy, by'⟩ := h.hs low hl
  have hm := h.mass
  have hc1 := h.c1
  have hc0 := h.c0
  have hfc := h.fc
  have hset : ∀ x, msum (H.set a x) = msum H - Num.fv .f32 (H.getD a 0) + Num.fv .f32 x := fun x => msum_set H a x ha
  have hhs := h.hs
  clear h
  obtain ⟨x, ex⟩ : ∃ x, Num.fv .f32 (H.getD a 0) = x := ⟨_, rfl⟩
  obtain ⟨y, ey⟩ : ∃ y, Num.fv .f32 (H.getD low 0) = y := ⟨_, rfl⟩
  obtain ⟨cv, ec⟩ : ∃ y, Num.fv .f32 c = y := ⟨_, rfl⟩
  obtain ⟨tv, et⟩ : ∃ y, Num.fv .f32 tk = y := ⟨_, rfl⟩
  obtain ⟨vv, ev⟩ : ∃ y, Num.fv .f32 lv = y := ⟨_, rfl⟩
  obtain ⟨D, eD⟩ : ∃ D : Rat, dl = D := ⟨_, rfl⟩
  have hD0 : 0 < D := by rw [← eD]; decide +kernel
  have hD1 : D ≤ 1 / 1000 := by rw [← eD]; decide +kernel
  rw [ex] at bx hlt hc1
  rw [ey] at by' hlt
  rw [ec] at hm hc1 hc0
  rw [et] at ht0 ht1
  rw [ev] at hv0 hv1
  -- the difference
  have i1 : InR (x - y) 16 := by unfold InR at *; constructor <;> grind
  have r1 := fr_sub s1 fx fy (by rw [ex, ey]; exact i1)
  rw [ex, ey] at r1
  have n1 := near_16 r1 i1
  have z1 : 0 ≤ Num.fv .f32 d := by
    have := r1.ge_int 0 (by decide) (by have : ((0 : Int) : Rat) = 0 := rfl; rw [this]; grind)
    exact this
  have f1 := r1.fin
  obtain ⟨dv, ed⟩ : ∃ y, Num.fv .f32 d = y := ⟨_, rfl⟩
  rw [ed, eD] at n1
  rw [ed] at z1
  -- what is taken
  have m2 := mul_box ht0 ht1 z1 (Rat.le_refl (a := dv))
  have i2 : InR (tv * dv) 16 := by unfold InR at *; constructor <;> grind
  have r2 := fr_mul s2 ht f1 (by rw [et, ed]; exact i2)
  rw [et, ed] at r2
  have n2 := near_16 r2 i2
  have z2 : 0 ≤ Num.fv .f32 t := r2.ge_int 0 (by decide) m2.1
  have f2 := r2.fin
  obtain ⟨tt, ett⟩ : ∃ y, Num.fv .f32 t = y := ⟨_, rfl⟩
  rw [ett, eD] at n2
  rw [ett] at z2
  obtain ⟨P, eP⟩ : ∃ P, tv * dv = P := ⟨_, rfl⟩
  rw [eP] at m2 n2
  -- the height without it
  have i3 : InR (x - tt) 16 := by unfold InR at *; constructor <;> grind
  have r3 := fr_sub s3 fx f2 (by rw [ex, ett]; exact i3)
  rw [ex, ett] at r3
  have n3 := near_16 r3 i3
  have f3 := r3.fin
  obtain ⟨hv, eh⟩ : ∃ y, Num.fv .f32 h1 = y := ⟨_, rfl⟩
  rw [eh, eD] at n3
  -- carried
  have i4 : InR (cv + tt) 16 := by unfold InR at *; constructor <;> grind
  have r4 := fr_add s4 hfc f2 (by rw [ec, ett]; exact i4)
  rw [ec, ett] at r4
  have n4 := near_16 r4 i4
  have z4 : 0 ≤ Num.fv .f32 c1 := r4.ge_int 0 (by decide) (by have : ((0 : Int) : Rat) = 0 := rfl; rw [this]; grind)
  have f4 := r4.fin
  obtain ⟨kv, ek⟩ : ∃ y, Num.fv .f32 c1 = y := ⟨_, rfl⟩
  rw [ek, eD] at n4
  rw [ek] at z4
  -- left
  have m5 := mul_box hv0 hv1 z4 (Rat.le_refl (a := kv))
  have i5 : InR (vv * kv) 16 := by unfold InR at *; constructor <;> grind
  have r5 := fr_mul s5 hlv f4 (by rw [ev, ek]; exact i5)
  rw [ev, ek] at r5
  have z5 : 0 ≤ Num.fv .f32 l := r5.ge_int 0 (by decide) m5.1
  have u5 : Num.fv .f32 l ≤ kv := by
    have := r5.le kv (by rw [← ek]; exact rep_val _ f4) (by grind)
    exact this
  have f5 := r5.fin
  obtain ⟨lw, el⟩ : ∃ y, Num.fv .f32 l = y := ⟨_, rfl⟩
  rw [el] at z5 u5
  -- the height then
  have i6 : InR (hv + lw) 16 := by unfold InR at *; constructor <;> grind
  have r6 := fr_add s6 f3 f5 (by rw [eh, el]; exact i6)
  rw [eh, el] at r6
  have n6 := near_16 r6 i6
  have f6 := r6.fin
  obtain ⟨gv, eg⟩ : ∃ y, Num.fv .f32 h2 = y := ⟨_, rfl⟩
  rw [eg, eD] at n6
  -- carried then
  have i7 : InR (kv - lw) 16 := by unfold InR at *; constructor <;> grind
  have r7 := fr_sub s7 f4 f5 (by rw [ek, el]; exact i7)
  rw [ek, el] at r7
  have n7 := near_16 r7 i7
  have z7 : 0 ≤ Num.fv .f32 c' := r7.ge_int 0 (by decide) (by have : ((0 : Int) : Rat) = 0 := rfl; rw [this]; grind)
  have u7 : Num.fv .f32 c' ≤ kv := r7.le kv (by rw [← ek]; exact rep_val _ f4) (by grind)
  have f7 := r7.fin
  obtain ⟨kw, ew⟩ : ∃ y, Num.fv .f32 c' = y := ⟨_, rfl⟩
  rw [ew, eD] at n7
  rw [ew] at z7 u7
  have hset2 := hset h2
  rw [ex, eg] at hset2
  rw [eD]
  clear r1 r2 r3 r4 r5 r6 r7 i1 i2 i3 i4 i5 i6 i7 m5
  refine ⟨?_, f7, ?_, ?_, ?_⟩
  · refine HsOk.set (hhs.mono (by grind)) f6 ?_
    rw [eg]
    unfold InR at *
    constructor <;> grind
  · rw [ew]; exact z7
  · rw [get_set_ne hne, ey, ew]
    unfold InR at *
    grind
  · rw [hset2, ew]
    unfold InR at *
    constructor <;> grind
theorem dri_stop {B q m0 : Rat} {a c r : Nat} {H : List Nat} (h : DrI B q m0 H a c) (ha : a < H.length) (hB : B ≤ 5) (hq : 0 ≤ q) (hq1 : q ≤ 1 / 1000) (hs : FR .add (H.getD a 0) c r) :
    HsOk (B + 8 * q + dl) (H.set a r) ∧ InR (msum (H.set a r) - m0) (6 * q + dl) := by
  obtain ⟨fx, bx⟩ := h.hs a ha
  have hm := h.mass
  have hc1 := h.c1
  have hc0 := h.c0
  have hfc := h.fc
  have hset : ∀ x, msum (H.set a x) = msum H - Num.fv .f32 (H.getD a 0) + Num.fv .f32 x := fun x => msum_set H a x ha
  have hhs := h.hs
  clear h
  obtain ⟨x, ex⟩ : ∃ x, Num.fv .f32 (H.getD a 0) = x := ⟨_, rfl⟩
  obtain ⟨cv, ec⟩ : ∃ y, Num.fv .f32 c = y := ⟨_, rfl⟩
  obtain ⟨D, eD⟩ : ∃ D : Rat, dl = D := ⟨_, rfl⟩
  have hD0 : 0 < D := by rw [← eD]; decide +kernel
  have hD1 : D ≤ 1 / 1000 := by rw [← eD]; decide +kernel
  rw [ex] at bx hc1
  rw [ec] at hm hc1 hc0
  have i4 : InR (x + cv) 16 := by unfold InR at *; constructor <;> grind
  have r4 := fr_add hs fx hfc (by rw [ec, ex]; exact i4)
  rw [ec, ex] at r4
  have n4 := near_16 r4 i4
  have f4 := r4.fin
  obtain ⟨gv, eg⟩ : ∃ y, Num.fv .f32 r = y := ⟨_, rfl⟩
  rw [eg, eD] at n4
  have hset2 := hset r
  rw [ex, eg] at hset2
  rw [eD]
  clear r4 i4
  constructor
  · refine HsOk.set (hhs.mono (by grind)) f4 ?_
    rw [eg]
    unfold InR at *
    constructor <;> grind
  · rw [hset2]
    unfold InR at *
    constructor <;> grind
theorem ltF_num {x y : Nat} (hx : Fl .f32 x) (hy : Fl .f32 y) (h : ltF x y = true) : Num.fv .f32 x < Num.fv .f32 y := by
  obtain ⟨o, e, h1, _, _⟩ := order_fin FloatKind.f32.format hx hy
  unfold ltF at h
  rw [e] at h
  have : o = .lt := by cases o <;> simp_all
  exact h1.1 this
theorem nxI_low {W Hh a low : Nat} {H : List Nat} (h : nxI W Hh H a = some low) : ltF (H.getD low 0) (H.getD a 0) = true := by
  unfold nxI at h
  cases e : lowI H (nbs W Hh a) with
  | none => rw [e] at h; cases h
  | some b =>
    rw [e] at h
    simp only at h
    split at h
    · rename_i hl
      injection h with h
      rw [← h]
      exact hl
    · cases h
/-- What a drop leaves. -/
theorem run_num {W Hh tk lv : Nat} (ht : Fl .f32 tk) (ht0 : 0 ≤ Num.fv .f32 tk) (ht1 : Num.fv .f32 tk ≤ 1 / 2) (hlv : Fl .f32 lv) (hv0 : 0 ≤ Num.fv .f32 lv) (hv1 : Num.fv .f32 lv ≤ 1) {B m0 : Rat} (hB : B ≤ 5)
    {k : Nat} {H : List Nat} {a c : Nat} {Hf : List Nat} {n : Nat} (h : Run (nxI W Hh) tk lv k H a c Hf n) :
    ∀ q : Rat, H.length = W * Hh → a < W * Hh → DrI B q m0 H a c → 0 ≤ q → q + (k : Rat) * dl ≤ 1 / 1000 → HsOk (B + 8 * (q + (k : Rat) * dl) + dl) Hf ∧ InR (msum Hf - m0) (6 * (q + (k : Rat) * dl) + dl) ∧ n ≤ k := by
  have hd0 : (0 : Rat) ≤ dl := by decide +kernel
  induction h with
  | @stop k H a c r hk hr =>
    intro q hl ha hi hq hq1
    have hkd : 0 ≤ (k : Rat) * dl := Rat.mul_nonneg Rat.natCast_nonneg hd0
    have := dri_stop hi (by rw [hl]; exact ha) hB hq (by grind) hr
    generalize (k : Rat) * dl = z at *
    generalize dl = D at *
    refine ⟨this.1.mono (by grind), ?_, Nat.zero_le _⟩
    have := this.2
    unfold InR at *
    constructor <;> grind
  | @step k H a c low H' c' Hf n hnx hst _ ih =>
    intro q hl ha hi hq hq1
    have hlow := nxI_lt ha hnx
    have hc : ((k + 1 : Nat) : Rat) * dl = (k : Rat) * dl + dl := by
      rw [Rat.natCast_add, show ((1 : Nat) : Rat) = 1 from rfl]
      grind
    have hkd : 0 ≤ (k : Rat) * dl := Rat.mul_nonneg Rat.natCast_nonneg hd0
    rw [hc] at hq1 ⊢
    have hlt := ltF_num (hi.hs low (by rw [hl]; exact hlow)).1 (hi.hs a (by rw [hl]; exact ha)).1 (nxI_low hnx)
    have hi' := dri_step hi (by rw [hl]; exact ha) (by rw [hl]; exact hlow) hlt hB hq (by generalize (k : Rat) * dl = z at *; generalize dl = D at *; grind) ht ht0 ht1 hlv hv0 hv1 hst
    have := ih (q + dl) (by rw [step_len hst, hl]) hlow hi' (by generalize (k : Rat) * dl = z at *; generalize dl = D at *; grind) (by generalize (k : Rat) * dl = z at *; generalize dl = D at *; grind)
    have e : q + dl + (k : Rat) * dl = q + ((k : Rat) * dl + dl) := by grind
    rw [e] at this
    exact ⟨this.1, this.2.1, by omega⟩
end Go.Proofs.Ytoibgpmpngccjaa

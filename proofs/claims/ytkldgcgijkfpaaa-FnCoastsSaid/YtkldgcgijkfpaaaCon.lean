/- Plain law: points at equal distances along a line: their line is no longer, nearly. -/
import Derived.Test.YtkldgcgijkfpaaaCof
namespace Go.Proofs.Ytkldgcgijkfpaaa
open Go.RowKit
open Num Quick

/-- The length of the piece behind point i. -/
noncomputable def pl (f : Nat → Nat × Nat) (i : Nat) : Rat := Num.fv .f32 (pcw (f i) (f (i + 1)))
theorem tsum_next (f : Nat → Nat × Nat) (i : Nat) : tsum f (i + 2) = tsum f (i + 1) + pl f i := rfl
abbrev ee : Rat := 1 / 1048576
abbrev ez : Rat := 1 / 131072
/-- A point on the piece behind point i, at s. -/
structure EvP (f : Nat → Nat × Nat) (n i : Nat) (s a : Rat) (z : Nat × Nat) : Prop where
  hi : i + 1 < n
  s0 : 0 ≤ s
  sw : s ≤ pl f i
  a0 : 0 ≤ a
  a1 : a ≤ 1
  aw : InR (a * pl f i - s) ee
  zx : InR (Num.fv .f32 z.1 - (Num.fv .f32 (f i).1 + a * (Num.fv .f32 (f (i + 1)).1 - Num.fv .f32 (f i).1))) ez
  zy : InR (Num.fv .f32 z.2 - (Num.fv .f32 (f i).2 + a * (Num.fv .f32 (f (i + 1)).2 - Num.fv .f32 (f i).2))) ez
/-- The line's pieces, as lengths. -/
def Pcs (f : Nat → Nat × Nat) (n : Nat) : Prop := ∀ i, i + 1 < n → 0 ≤ pl f i ∧ Le2 (Num.fv .f32 (f (i + 1)).1 - Num.fv .f32 (f i).1) (Num.fv .f32 (f (i + 1)).2 - Num.fv .f32 (f i).2) (pl f i + eps)
theorem chain {f : Nat → Nat × Nat} {n i : Nat} (h : Pcs f n) : ∀ d, i + d < n → Le2 (Num.fv .f32 (f (i + d)).1 - Num.fv .f32 (f i).1) (Num.fv .f32 (f (i + d)).2 - Num.fv .f32 (f i).2) (tsum f (i + d + 1) - tsum f (i + 1) + (d : Rat) * eps)
  | 0, _ => by
    have e : ((0 : Nat) : Rat) = 0 := rfl
    rw [e]
    refine ⟨?_, ?_⟩
    · show 0 ≤ tsum f (i + 1) - tsum f (i + 1) + 0 * eps
      grind
    · show (Num.fv .f32 (f i).1 - Num.fv .f32 (f i).1) * (Num.fv .f32 (f i).1 - Num.fv .f32 (f i).1) + (Num.fv .f32 (f i).2 - Num.fv .f32 (f i).2) * (Num.fv .f32 (f i).2 - Num.fv .f32 (f i).2) ≤ (tsum f (i + 1) - tsum f (i + 1) + 0 * eps) * (tsum f (i + 1) - tsum f (i + 1) + 0 * eps)
      grind
  | d + 1, hd => by
    have ih := chain (i := i) h d (by omega)
    have p := (h (i + d) (by omega)).2
    have L := ih.add p
    have t := tsum_next f (i + d)
    have e : ((d + 1 : Nat) : Rat) = (d : Rat) + 1 := by rw [← nat_add]; rfl
    rw [show i + (d + 1) = i + d + 1 by omega, e, show i + d + 1 + 1 = i + d + 2 by omega, t]
    have e1 : Num.fv .f32 (f (i + d + 1)).1 - Num.fv .f32 (f i).1 = Num.fv .f32 (f (i + d)).1 - Num.fv .f32 (f i).1 + (Num.fv .f32 (f (i + d + 1)).1 - Num.fv .f32 (f (i + d)).1) := by grind
    have e2 : Num.fv .f32 (f (i + d + 1)).2 - Num.fv .f32 (f i).2 = Num.fv .f32 (f (i + d)).2 - Num.fv .f32 (f i).2 + (Num.fv .f32 (f (i + d + 1)).2 - Num.fv .f32 (f (i + d)).2) := by grind
    rw [e1, e2]
    refine L.mono ?_
    grind
/-- From the point before to the point. -/
theorem EvP.from_ {f : Nat → Nat × Nat} {n i : Nat} {s a : Rat} {z : Nat × Nat} (h : EvP f n i s a z) (hp : Pcs f n) : Le2 (Num.fv .f32 z.1 - Num.fv .f32 (f i).1) (Num.fv .f32 z.2 - Num.fv .f32 (f i).2) (s + (ee + eps + 2 * ez)) := by
  have L := ((hp i h.hi).2.scale h.a0).add (Le2.small h.zx h.zy)
  have a0 := h.a0
  have a1 := h.a1
  have aw := h.aw.1
  have e1 : a * (Num.fv .f32 (f (i + 1)).1 - Num.fv .f32 (f i).1) + (Num.fv .f32 z.1 - (Num.fv .f32 (f i).1 + a * (Num.fv .f32 (f (i + 1)).1 - Num.fv .f32 (f i).1))) = Num.fv .f32 z.1 - Num.fv .f32 (f i).1 := by grind
  have e2 : a * (Num.fv .f32 (f (i + 1)).2 - Num.fv .f32 (f i).2) + (Num.fv .f32 z.2 - (Num.fv .f32 (f i).2 + a * (Num.fv .f32 (f (i + 1)).2 - Num.fv .f32 (f i).2))) = Num.fv .f32 z.2 - Num.fv .f32 (f i).2 := by grind
  rw [e1, e2] at L
  refine L.mono ?_
  have e3 : a * (pl f i + eps) = a * pl f i + a * eps := by grind
  rw [e3]
  generalize a * pl f i = q at *
  clear L e1 e2 e3 h hp
  unfold eps ee ez at *
  grind
/-- .. to the point behind. -/
theorem EvP.to {f : Nat → Nat × Nat} {n i : Nat} {s a : Rat} {z : Nat × Nat} (h : EvP f n i s a z) (hp : Pcs f n) : Le2 (Num.fv .f32 (f (i + 1)).1 - Num.fv .f32 z.1) (Num.fv .f32 (f (i + 1)).2 - Num.fv .f32 z.2) (pl f i - s + (ee + eps + 2 * ez)) := by
  have a0 := h.a0
  have a1 := h.a1
  have aw := h.aw.2
  have L := ((hp i h.hi).2.scale (show 0 ≤ 1 - a by grind)).add (Le2.small h.zx h.zy).neg
  have e1 : (1 - a) * (Num.fv .f32 (f (i + 1)).1 - Num.fv .f32 (f i).1) + -(Num.fv .f32 z.1 - (Num.fv .f32 (f i).1 + a * (Num.fv .f32 (f (i + 1)).1 - Num.fv .f32 (f i).1))) = Num.fv .f32 (f (i + 1)).1 - Num.fv .f32 z.1 := by grind
  have e2 : (1 - a) * (Num.fv .f32 (f (i + 1)).2 - Num.fv .f32 (f i).2) + -(Num.fv .f32 z.2 - (Num.fv .f32 (f i).2 + a * (Num.fv .f32 (f (i + 1)).2 - Num.fv .f32 (f i).2))) = Num.fv .f32 (f (i + 1)).2 - Num.fv .f32 z.2 := by grind
  rw [e1, e2] at L
  refine L.mono ?_
  have e3 : (1 - a) * (pl f i + eps) = pl f i - a * pl f i + eps - a * eps := by grind
  rw [e3]
  generalize a * pl f i = q at *
  clear L e1 e2 e3 h hp
  unfold eps ee ez at *
  grind
abbrev ec : Rat := 2 * ee + 2 * eps + 4 * ez
theorem scale_abs {x y A c C : Rat} (h : Le2 x y A) (h1 : c ≤ C) (h2 : -c ≤ C) : Le2 (c * x) (c * y) (C * A) := by
  have hA := h.nn
  have hC : 0 ≤ C := by grind
  rcases (Rat.le_total : 0 ≤ c ∨ c ≤ 0) with g | g
  · exact (h.scale g).mono (Rat.mul_le_mul_of_nonneg_right h1 hA)
  · have k := (h.neg.scale (show 0 ≤ -c by grind)).mono (Rat.mul_le_mul_of_nonneg_right h2 hA)
    rwa [show -c * -x = c * x by grind, show -c * -y = c * y by grind] at k
/-- Two points of one piece. -/
theorem ev_same {f : Nat → Nat × Nat} {n i : Nat} {s a s' a' : Rat} {z z' : Nat × Nat} (h : EvP f n i s a z) (k : EvP f n i s' a' z') (hp : Pcs f n) (hs : s ≤ s') : Le2 (Num.fv .f32 z'.1 - Num.fv .f32 z.1) (Num.fv .f32 z'.2 - Num.fv .f32 z.2) (s' - s + ec) := by
  have hq := hp i h.hi
  have a0 := h.a0
  have a1 := h.a1
  have b0 := k.a0
  have b1 := k.a1
  have aw := h.aw
  have bw := k.aw
  obtain ⟨C, hC1, hC2, hC3⟩ : ∃ C, a' - a ≤ C ∧ -(a' - a) ≤ C ∧ C * (pl f i + eps) ≤ s' - s + 2 * ee + eps := by
    rcases (Rat.le_total : a ≤ a' ∨ a' ≤ a) with g | g
    · refine ⟨a' - a, Rat.le_refl, by grind, ?_⟩
      have e : (a' - a) * (pl f i + eps) = a' * pl f i - a * pl f i + a' * eps - a * eps := by grind
      rw [e]
      generalize a * pl f i = q at *
      generalize a' * pl f i = q' at *
      clear hq hp h k
      unfold eps ee InR at *
      grind
    · refine ⟨a - a', by grind, by grind, ?_⟩
      have e : (a - a') * (pl f i + eps) = a * pl f i - a' * pl f i + a * eps - a' * eps := by grind
      rw [e]
      generalize a * pl f i = q at *
      generalize a' * pl f i = q' at *
      clear hq hp h k
      unfold eps ee InR at *
      grind
  have L := ((scale_abs hq.2 hC1 hC2).add (Le2.small k.zx k.zy)).add (Le2.small h.zx h.zy).neg
  have e1 : (a' - a) * (Num.fv .f32 (f (i + 1)).1 - Num.fv .f32 (f i).1) + (Num.fv .f32 z'.1 - (Num.fv .f32 (f i).1 + a' * (Num.fv .f32 (f (i + 1)).1 - Num.fv .f32 (f i).1))) + -(Num.fv .f32 z.1 - (Num.fv .f32 (f i).1 + a * (Num.fv .f32 (f (i + 1)).1 - Num.fv .f32 (f i).1))) = Num.fv .f32 z'.1 - Num.fv .f32 z.1 := by grind
  have e2 : (a' - a) * (Num.fv .f32 (f (i + 1)).2 - Num.fv .f32 (f i).2) + (Num.fv .f32 z'.2 - (Num.fv .f32 (f i).2 + a' * (Num.fv .f32 (f (i + 1)).2 - Num.fv .f32 (f i).2))) + -(Num.fv .f32 z.2 - (Num.fv .f32 (f i).2 + a * (Num.fv .f32 (f (i + 1)).2 - Num.fv .f32 (f i).2))) = Num.fv .f32 z'.2 - Num.fv .f32 z.2 := by grind
  rw [e1, e2] at L
  refine L.mono ?_
  generalize C * (pl f i + eps) = q at *
  clear L e1 e2 hp h k aw bw hq
  unfold ec eps ee ez at *
  grind
/-- A point behind point n - 1, or a point of a later piece. -/
theorem ev_late {f : Nat → Nat × Nat} {n i d : Nat} {s a s' c : Rat} {z z' : Nat × Nat} (h : EvP f n i s a z) (hp : Pcs f n) (hd : i + 1 + d < n) (hz : Le2 (Num.fv .f32 z'.1 - Num.fv .f32 (f (i + 1 + d)).1) (Num.fv .f32 z'.2 - Num.fv .f32 (f (i + 1 + d)).2) (s' + c)) :
    Le2 (Num.fv .f32 z'.1 - Num.fv .f32 z.1) (Num.fv .f32 z'.2 - Num.fv .f32 z.2) (tsum f (i + 1 + d + 1) + s' - (tsum f (i + 1) + s) + (d : Rat) * eps + (ee + eps + 2 * ez) + c) := by
  have L := ((h.to hp).add (chain hp d hd)).add hz
  have e1 : Num.fv .f32 (f (i + 1)).1 - Num.fv .f32 z.1 + (Num.fv .f32 (f (i + 1 + d)).1 - Num.fv .f32 (f (i + 1)).1) + (Num.fv .f32 z'.1 - Num.fv .f32 (f (i + 1 + d)).1) = Num.fv .f32 z'.1 - Num.fv .f32 z.1 := by grind
  have e2 : Num.fv .f32 (f (i + 1)).2 - Num.fv .f32 z.2 + (Num.fv .f32 (f (i + 1 + d)).2 - Num.fv .f32 (f (i + 1)).2) + (Num.fv .f32 z'.2 - Num.fv .f32 (f (i + 1 + d)).2) = Num.fv .f32 z'.2 - Num.fv .f32 z.2 := by grind
  rw [e1, e2] at L
  refine L.mono ?_
  have t := tsum_next f i
  rw [show i + 1 + 1 = i + 2 by omega, t]
  grind
theorem tsum_mono {f : Nat → Nat × Nat} {n i : Nat} (hp : Pcs f n) : ∀ d, i + d < n → tsum f (i + 1) ≤ tsum f (i + d + 1)
  | 0, _ => Rat.le_refl
  | d + 1, hd => by
    have ih := tsum_mono (i := i) hp d (by omega)
    have p := (hp (i + d) (by omega)).1
    have t := tsum_next f (i + d)
    rw [show i + (d + 1) + 1 = i + d + 2 by omega, t]
    grind
/-- From one point to the next one. -/
theorem ev_step {f : Nat → Nat × Nat} {n i j : Nat} {s a s' a' : Rat} {z z' : Nat × Nat} (h : EvP f n i s a z) (k : EvP f n j s' a' z') (hp : Pcs f n) (hT : tsum f (i + 1) + s < tsum f (j + 1) + s') :
    Le2 (Num.fv .f32 z'.1 - Num.fv .f32 z.1) (Num.fv .f32 z'.2 - Num.fv .f32 z.2) (tsum f (j + 1) + s' + (j : Rat) * eps - (tsum f (i + 1) + s + (i : Rat) * eps) + ec) := by
  rcases Nat.lt_trichotomy i j with c | rfl | c
  · obtain ⟨d, rfl⟩ : ∃ d, j = i + 1 + d := ⟨j - i - 1, by omega⟩
    have L := ev_late h hp (by have := k.hi; omega) (k.from_ hp)
    refine L.mono ?_
    have e : ((i + 1 + d : Nat) : Rat) = (i : Rat) + 1 + (d : Rat) := by rw [← nat_add, ← nat_add]; rfl
    rw [e]
    clear L h k hp
    unfold ec eps ee ez
    grind
  · have L := ev_same h k hp (by grind)
    refine L.mono ?_
    grind
  · exfalso
    obtain ⟨d, rfl⟩ : ∃ d, i = j + 1 + d := ⟨i - j - 1, by omega⟩
    have m := tsum_mono hp (i := j + 1) d (by have := h.hi; omega)
    have t := tsum_next f j
    have := k.sw
    have := h.s0
    rw [show j + 1 + 1 = j + 2 by omega] at m
    grind
theorem pcs_of {f : Nat → Nat × Nat} {n : Nat} (hf : ∀ i, i < n → Cb ((2 : Nat) : Rat) (f i)) : Pcs f n := fun i hi => by
  have m16 : ((2 : Nat) : Rat) ≤ ((16 : Nat) : Rat) := Rat.natCast_le_natCast.2 (by omega)
  have P := pcw_ok ((hf i (by omega)).mono m16) ((hf (i + 1) hi).mono m16)
  exact ⟨P.nn, P.up⟩
theorem EvP.cb {f : Nat → Nat × Nat} {n i : Nat} {s a : Rat} {z : Nat × Nat} (h : EvP f n i s a z) (hp : Pcs f n) (hf : ∀ i, i < n → Cb ((2 : Nat) : Rat) (f i)) (h1 : Fl .f32 z.1) (h2 : Fl .f32 z.2) : Cb ((9 : Nat) : Rat) z := by
  have L := h.from_ hp
  have m16 : ((2 : Nat) : Rat) ≤ ((16 : Nat) : Rat) := Rat.natCast_le_natCast.2 (by omega)
  have ci := hf i (by have := h.hi; omega)
  have P := (pcw_ok (ci.mono m16) ((hf (i + 1) h.hi).mono m16)).int 2 (by omega) ci (hf (i + 1) h.hi)
  have sw := h.sw
  have hw : pl f i ≤ 6 := P
  have a := L.fst
  have b := L.snd
  have c1 := ci.2.2.1
  have c2 := ci.2.2.2
  have e2 : ((2 : Nat) : Rat) = 2 := rfl
  have e9 : ((9 : Nat) : Rat) = 9 := rfl
  rw [e2] at c1 c2
  rw [e9]
  refine ⟨h1, h2, ?_, ?_⟩
  · clear L h hp hf P ci b c2
    unfold InR eps ee ez at *
    constructor <;> grind
  · clear L h hp hf P ci a c1
    unfold InR eps ee ez at *
    constructor <;> grind
/-- The even points, as numbers. -/
structure Evs (f g : Nat → Nat × Nat) (n : Nat) (l : Rat) (m : Nat) : Prop where
  pt : ∀ k, k < m → ∃ i s a, EvP f n i s a (g k) ∧ Fl .f32 (g k).1 ∧ Fl .f32 (g k).2 ∧ InR (tsum f (i + 1) + s - l * ((k : Rat) / 8)) (1 / 32768)
  last : g m = f (n - 1)
theorem even_sum {f g : Nat → Nat × Nat} {n : Nat} {l : Rat} (hn1 : 2 ≤ n) (hf : ∀ i, i < n → Cb ((2 : Nat) : Rat) (f i)) (h : Evs f g n l 8) (hl : 1 / 16 ≤ l) : ∀ k, k < 8 → ∃ i s a, EvP f n i s a (g k) ∧ InR (tsum f (i + 1) + s - l * ((k : Rat) / 8)) (1 / 32768) ∧ tsum g (k + 1) ≤ tsum f (i + 1) + s + (i : Rat) * eps + (k : Rat) * (ec + eps)
  | 0, _ => by
    obtain ⟨i, s, a, p, f1, f2, t⟩ := h.pt 0 (by omega)
    refine ⟨i, s, a, p, t, ?_⟩
    have m := tsum_mono (pcs_of hf) (i := 0) i (by have := p.hi; omega)
    have s0 := p.s0
    have e : ((0 : Nat) : Rat) = 0 := rfl
    have hi0 : (0 : Rat) ≤ (i : Rat) := Rat.natCast_nonneg
    rw [show 0 + i + 1 = i + 1 by omega] at m
    have m' : (0 : Rat) ≤ tsum f (i + 1) := m
    rw [e]
    show (0 : Rat) ≤ _
    unfold eps
    grind
  | k + 1, hk => by
    obtain ⟨i, s, a, p, t, ih⟩ := even_sum hn1 hf h hl k (by omega)
    obtain ⟨j, s', a', p', f1, f2, t'⟩ := h.pt (k + 1) hk
    obtain ⟨_, _, _, q, g1, g2, _⟩ := h.pt k (by omega)
    have hp := pcs_of hf
    have ek : ((k + 1 : Nat) : Rat) = (k : Rat) + 1 := by rw [← nat_add]; rfl
    rw [ek] at t'
    have hT : tsum f (i + 1) + s < tsum f (j + 1) + s' := by
      have e1 : l * (((k : Rat) + 1) / 8) = l * ((k : Rat) / 8) + l / 8 := by grind
      rw [e1] at t'
      generalize l * ((k : Rat) / 8) = y at *
      clear ih p p' q hp h
      unfold InR at *
      grind
    have L := ev_step p p' hp hT
    have m16 : ((9 : Nat) : Rat) ≤ ((16 : Nat) : Rat) := Rat.natCast_le_natCast.2 (by omega)
    have ck := q.cb hp hf g1 g2
    have ck' := p'.cb hp hf f1 f2
    have P := (pcw_ok (ck.mono m16) (ck'.mono m16)).lo _ L
    refine ⟨j, s', a', p', by rw [ek]; exact t', ?_⟩
    have tn := tsum_next g k
    rw [show k + 1 + 1 = k + 2 by omega, tn, ek]
    have P' : pl g k ≤ _ := P
    clear L hT p p' q hp h ck ck' P t t'
    grind
/-- The even points' line is no longer, nearly. -/
theorem even_long {f g : Nat → Nat × Nat} {n : Nat} {l : Rat} (hn1 : 2 ≤ n) (hf : ∀ i, i < n → Cb ((2 : Nat) : Rat) (f i)) (h : Evs f g n l 8) (hl : 1 / 16 ≤ l) : tsum g 9 ≤ tsum f n + (n : Rat) * eps + 8 * (ec + eps) := by
  obtain ⟨i, s, a, p, t, ih⟩ := even_sum hn1 hf h hl 7 (by omega)
  obtain ⟨_, _, _, q, g1, g2, _⟩ := h.pt 7 (by omega)
  have hp := pcs_of hf
  obtain ⟨d, hd⟩ : ∃ d, i + 1 + d + 1 = n := ⟨n - i - 2, by have := p.hi; omega⟩
  have hz : Le2 (Num.fv .f32 (g 8).1 - Num.fv .f32 (f (i + 1 + d)).1) (Num.fv .f32 (g 8).2 - Num.fv .f32 (f (i + 1 + d)).2) (0 + 0) := by
    rw [h.last, show n - 1 = i + 1 + d by omega]
    exact ⟨by grind, by grind⟩
  have L := ev_late p hp (by omega) hz
  have m16 : ((9 : Nat) : Rat) ≤ ((16 : Nat) : Rat) := Rat.natCast_le_natCast.2 (by omega)
  have ck := q.cb hp hf g1 g2
  have ck' : Cb ((16 : Nat) : Rat) (g 8) := by
    rw [h.last]
    exact (hf (n - 1) (by omega)).mono (Rat.natCast_le_natCast.2 (by omega))
  have P := (pcw_ok (ck.mono m16) ck').lo _ L
  have tn := tsum_next g 7
  have P' : pl g 7 ≤ _ := P
  rw [tn]
  rw [hd] at P'
  have en : (n : Rat) = (i : Rat) + 1 + (d : Rat) + 1 := by rw [← hd, ← nat_add, ← nat_add, ← nat_add]; rfl
  have e7 : ((7 : Nat) : Rat) = 7 := rfl
  rw [e7] at ih
  rw [en]
  clear L p q hp h ck ck' P t hz
  unfold ec eps ee ez at *
  grind
end Go.Proofs.Ytkldgcgijkfpaaa

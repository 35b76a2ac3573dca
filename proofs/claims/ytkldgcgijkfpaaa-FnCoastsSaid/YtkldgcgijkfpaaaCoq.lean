/- Plain laws and small walks for the law on coasts: lengths, sameness, what is kept. -/
import Derived.Test.YtkldgcgijkfpaaaCop
import Derived.Test.YtkldgcgijkfpaaaCok
namespace Go.Proofs.Ytkldgcgijkfpaaa
open Go.RowKit
open Num Quick
attribute [local go_sem] run_store_fl run_store_cx

theorem ew_far {x y : Int} (hx : x.natAbs ≤ 16) (hy : y.natAbs ≤ 16) : Num.fv .f32 (ew y) - Num.fv .f32 (ew x) = 0 ∨ 1 / 8 ≤ Num.fv .f32 (ew y) - Num.fv .f32 (ew x) ∨ Num.fv .f32 (ew y) - Num.fv .f32 (ew x) ≤ -(1 / 8) := by
  have v1 := (ew_ok hx).2.val
  have v2 := (ew_ok hy).2.val
  have e8 : ((2 ^ 3 : Nat) : Rat) = 8 := rfl
  rw [v1, v2, e8]
  rcases (by omega : y - x = 0 ∨ 1 ≤ y - x ∨ y - x ≤ -1) with h | h | h
  · left
    have : y = x := by omega
    rw [this]
    grind
  · right; left
    have : ((1 : Int) : Rat) ≤ ((y - x : Int) : Rat) := Rat.intCast_le_intCast.2 h
    rw [Rat.intCast_sub] at this
    have e1 : ((1 : Int) : Rat) = 1 := rfl
    rw [e1] at this
    grind
  · right; right
    have : ((y - x : Int) : Rat) ≤ ((-1 : Int) : Rat) := Rat.intCast_le_intCast.2 h
    rw [Rat.intCast_sub] at this
    have e1 : ((-1 : Int) : Rat) = -1 := rfl
    rw [e1] at this
    grind
theorem pl_or {a b : Nat × Nat} {r : Nat} (ha : Ew a) (hb : Ew b) (P : Piece a b r) : Num.fv .f32 r = 0 ∨ 1 / 8 - eps ≤ Num.fv .f32 r := by
  have z := P.zero
  have u := P.up
  obtain ⟨x, y, hx, hy, rfl⟩ := ha
  obtain ⟨x', y', hx', hy', rfl⟩ := hb
  have k1 := ew_far hx hx'
  have k2 := ew_far hy hy'
  have f := u.fst
  have s := u.snd
  simp only at z f s
  clear u P
  generalize Num.fv .f32 (ew x) = A at *
  generalize Num.fv .f32 (ew y) = B at *
  generalize Num.fv .f32 (ew x') = A' at *
  generalize Num.fv .f32 (ew y') = B' at *
  generalize Num.fv .f32 r = R at *
  unfold InR at *
  rcases k1 with k1 | k1 | k1
  · rcases k2 with k2 | k2 | k2
    · exact .inl (z (by grind) (by grind))
    · right; grind
    · right; grind
  · right; grind
  · right; grind
theorem lsum_or {f : Nat → Nat × Nat} {n : Nat} (hn : n ≤ 7) (hE : ∀ i, i < n → Ew (f i)) : ∀ k, k + 1 ≤ n → (Num.fv .f32 (lsum f (k + 1)) = 0 ∧ tsum f (k + 1) = 0) ∨ 1 / 8 - eps ≤ tsum f (k + 1)
  | 0, _ => .inl ⟨zero_fin.2, rfl⟩
  | k + 1, hk => by
    have hf : ∀ i, i < n → Cb ((2 : Nat) : Rat) (f i) := fun i hi => (hE i hi).cb
    have m16 : ((2 : Nat) : Rat) ≤ ((16 : Nat) : Rat) := Rat.natCast_le_natCast.2 (by omega)
    have P := pcw_ok ((hf k (by omega)).mono m16) ((hf (k + 1) (by omega)).mono m16)
    have ih := lsum_or hn hE k (by omega)
    have L1 := lsum_ok (show (2 : Nat) ≤ 16 by omega) (show 3 * 2 * n ≤ 256 by omega) hf k (by omega)
    have L2 := (lsum_ok (show (2 : Nat) ≤ 16 by omega) (show 3 * 2 * n ≤ 256 by omega) hf (k + 1) (by omega)).2.2.2.2 k rfl
    have tn := tsum_next f k
    rw [show k + 1 + 1 = k + 2 by omega, tn]
    have p0 : 0 ≤ pl f k := P.nn
    have po := pl_or (hE k (by omega)) (hE (k + 1) (by omega)) P
    rcases ih with ⟨h1, h2⟩ | h
    · rcases po with h3 | h3
      · left
        have pz : pl f k = 0 := h3
        refine ⟨?_, by rw [h2, pz]; grind⟩
        have t0 : (0 : Rat) ≤ top := by decide +kernel
        obtain ⟨T, eT⟩ : ∃ T : Rat, top = T := ⟨_, rfl⟩
        rw [eT] at t0
        obtain ⟨q, q1, q2⟩ := fadd L1.1 P.fin (by rw [eT, h1, h3]; grind) (by rw [eT, h1, h3]; grind)
        have := zero_of q2 (by rw [h1, h3]; grind)
        have e : q = lsum f (k + 2) := Option.some.inj (q1.symm.trans L2)
        rw [← e]
        exact this
      · right
        have h3' : 1 / 8 - eps ≤ pl f k := h3
        rw [h2]
        grind
    · right
      grind
/-- The line is of length nothing, or not so short. -/
theorem len_or {f : Nat → Nat × Nat} {n : Nat} (hn1 : 2 ≤ n) (hn : n ≤ 7) (hE : ∀ i, i < n → Ew (f i)) : Num.fv .f32 (lsum f n) = 0 ∨ 1 / 16 ≤ Num.fv .f32 (lsum f n) := by
  have hf : ∀ i, i < n → Cb ((2 : Nat) : Rat) (f i) := fun i hi => (hE i hi).cb
  have h := lsum_or hn hE (n - 1) (by omega)
  have L := (lsum_ok (show (2 : Nat) ≤ 16 by omega) (show 3 * 2 * n ≤ 256 by omega) hf (n - 1) (by omega)).2.2.2.1
  rw [show n - 1 + 1 = n by omega] at h L
  rcases h with h | h
  · exact .inl h.1
  · right
    have h2 : ((n - 1 : Nat) : Rat) ≤ ((6 : Nat) : Rat) := Rat.natCast_le_natCast.2 (by omega)
    have e : ((6 : Nat) : Rat) = 6 := rfl
    rw [e] at h2
    generalize ((n - 1 : Nat) : Rat) = d at *
    unfold InR del at L
    unfold eps at h
    grind
theorem lsum_near {f : Nat → Nat × Nat} {n B m : Nat} (hn1 : 1 ≤ n) (hB : B ≤ 16) (hn : 3 * B * n ≤ 256) (hm : n ≤ m + 1) (hf : ∀ i, i < n → Cb ((B : Nat) : Rat) (f i)) : Fl .f32 (lsum f n) ∧ 0 ≤ Num.fv .f32 (lsum f n) ∧ Num.fv .f32 (lsum f n) ≤ 256 ∧ InR (Num.fv .f32 (lsum f n) - tsum f n) ((m : Rat) * del) := by
  have LS := lsum_ok hB hn hf (n - 1) (by omega)
  rw [show n - 1 + 1 = n by omega] at LS
  refine ⟨LS.1, LS.2.1, ?_, ?_⟩
  · have h1 := LS.2.2.1
    have hmul : 3 * B * (n - 1) ≤ 3 * B * n := Nat.mul_le_mul_left _ (by omega)
    have h2 := Rat.natCast_le_natCast.2 (show 3 * B * (n - 1) ≤ 256 by omega)
    have e : ((256 : Nat) : Rat) = 256 := rfl
    rw [e] at h2
    exact Rat.le_trans h1 h2
  · have h1 := LS.2.2.2.1
    have h2 : ((n - 1 : Nat) : Rat) ≤ (m : Rat) := Rat.natCast_le_natCast.2 (by omega)
    generalize ((n - 1 : Nat) : Rat) = d at *
    generalize (m : Rat) = e at *
    clear LS
    unfold InR del at *
    constructor <;> grind
theorem rough_ok {P Q : Nat → Nat × Nat} {rough n : Nat} (hn1 : 2 ≤ n) (hn : n ≤ 7) (h : Bro P Q rough 2 n) (hP : ∀ i, i < n → Cb ((2 : Nat) : Rat) (P i)) : Num.fv .f32 (lsum P n) ≤ Num.fv .f32 (lsum Q (2 * n - 1)) + 1 / 2048 := by
  have a := (lsum_near (show 1 ≤ n by omega) (show (2 : Nat) ≤ 16 by omega) (show 3 * 2 * n ≤ 256 by omega) (show n ≤ 6 + 1 by omega) hP).2.2.2
  have b := (lsum_near (f := Q) (n := 2 * n - 1) (B := 4) (m := 12) (by omega) (by omega) (by omega) (by omega) (fun i hi => h.cb i hi)).2.2.2
  have t := bro_tsum h (by omega) hP (n - 1) (by omega)
  rw [show n - 1 + 1 = n by omega, show 2 * (n - 1) + 1 = 2 * n - 1 by omega] at t
  have h2 : ((n - 1 : Nat) : Rat) ≤ ((6 : Nat) : Rat) := Rat.natCast_le_natCast.2 (by omega)
  have e : ((6 : Nat) : Rat) = 6 := rfl
  have e12 : ((12 : Nat) : Rat) = 12 := rfl
  rw [e] at h2 a
  rw [e12] at b
  generalize ((n - 1 : Nat) : Rat) = d at *
  unfold InR del eps at *
  clear h hP
  grind
theorem straight_ok {P Q : Nat → Nat × Nat} {rough n : Nat} (hn1 : 2 ≤ n) (hn : n ≤ 7) (h : Bro P Q rough 2 n) (hE : ∀ i, i < n → Ew (P i)) (hr : Fl .f32 rough) (h0 : Num.fv .f32 rough = 0) : InR (Num.fv .f32 (lsum P n) - Num.fv .f32 (lsum Q (2 * n - 1))) (1 / 2048) := by
  have hP : ∀ i, i < n → Cb ((2 : Nat) : Rat) (P i) := fun i hi => (hE i hi).cb
  have a := (lsum_near (show 1 ≤ n by omega) (show (2 : Nat) ≤ 16 by omega) (show 3 * 2 * n ≤ 256 by omega) (show n ≤ 6 + 1 by omega) hP).2.2.2
  have b := (lsum_near (f := Q) (n := 2 * n - 1) (B := 4) (m := 12) (by omega) (by omega) (by omega) (by omega) (fun i hi => h.cb i hi)).2.2.2
  have t := bro_tsum h (by omega) hP (n - 1) (by omega)
  have s := straight_tsum h (by omega) hP (fun k hk => by
    obtain ⟨d, d1, d2, ⟨M⟩⟩ := h.odd k hk
    exact mid_mean (hE k (by omega)) (hE (k + 1) hk) hr h0 d1 d2 M) (n - 1) (by omega)
  rw [show n - 1 + 1 = n by omega, show 2 * (n - 1) + 1 = 2 * n - 1 by omega] at t s
  have h2 : ((n - 1 : Nat) : Rat) ≤ ((6 : Nat) : Rat) := Rat.natCast_le_natCast.2 (by omega)
  have e : ((6 : Nat) : Rat) = 6 := rfl
  have e12 : ((12 : Nat) : Rat) = 12 := rfl
  rw [e] at h2 a
  rw [e12] at b
  generalize ((n - 1 : Nat) : Rat) = d at *
  unfold InR del eps at *
  clear h hP hE
  constructor <;> grind
theorem c101d : Fl .f64 4607227454796291113 ∧ 1 ≤ Num.fv .f64 4607227454796291113 ∧ Num.fv .f64 4607227454796291113 ≤ 2 := by
  refine ⟨?_, ?_, ?_⟩
  · show (4607227454796291113 : Nat) % FloatKind.f64.format.signWeight < FloatKind.f64.format.infRung
    decide +kernel
  · unfold Num.fv val rv p2
    decide +kernel
  · unfold Num.fv val rv p2
    decide +kernel
/-- The even points' length is not too much. -/
theorem even_law {f g : Nat → Nat × Nat} {n : Nat} (hn1 : 2 ≤ n) (hn : n ≤ 7) (hf : ∀ i, i < n → Cb ((2 : Nat) : Rat) (f i)) (hl : 1 / 16 ≤ Num.fv .f32 (lsum f n)) (h : Evs f g n (Num.fv .f32 (lsum f n)) 8) : ∃ X Y m a, qwide (lsum g 9) = some X ∧ qwide (lsum f n) = some Y ∧ floatBits .mul .f64 Y 4607227454796291113 = some m ∧ floatBits .add .f64 m 4562254508917369340 = some a ∧ (FloatKind.f64.format.order X a == some .lt) = true := by
  have a := lsum_near (show 1 ≤ n by omega) (show (2 : Nat) ≤ 16 by omega) (show 3 * 2 * n ≤ 256 by omega) (show n ≤ 6 + 1 by omega) hf
  have b := lsum_near (f := g) (n := 9) (B := 9) (m := 8) (by omega) (by omega) (by omega) (by omega) (h.cb hn1 hf)
  have e := even_long hn1 hf h hl
  obtain ⟨fb, b0, b256, b2⟩ := b
  obtain ⟨fa, a0, a256, a2⟩ := a
  have h2 : ((n : Nat) : Rat) ≤ ((7 : Nat) : Rat) := Rat.natCast_le_natCast.2 (by omega)
  have e7 : ((7 : Nat) : Rat) = 7 := rfl
  have e6 : ((6 : Nat) : Rat) = 6 := rfl
  have e8 : ((8 : Nat) : Rat) = 8 := rfl
  rw [e7] at h2
  rw [e6] at a2
  rw [e8] at b2
  obtain ⟨X, x1, x2, _, x4⟩ := fwide fb
  obtain ⟨Y, y1, y2, _, y4⟩ := fwide fa
  have hxy : Num.fv .f64 X ≤ Num.fv .f64 Y + 15 / 16384 := by
    rw [x4, y4]
    generalize (n : Rat) = d at *
    unfold InR del ec eps ee ez at *
    clear h hf x4 y4
    grind
  rw [← y4] at a0 a256
  rw [← x4] at b256
  have t : (1000 : Rat) ≤ top := by decide +kernel
  obtain ⟨T, eT⟩ : ∃ T : Rat, top = T := ⟨_, rfl⟩
  rw [eT] at t
  have c1 := c101d
  have c2 := c001d
  have m1 := Rat.mul_le_mul_of_nonneg_left c1.2.1 a0
  have m2 := Rat.mul_le_mul_of_nonneg_left c1.2.2 a0
  obtain ⟨C, eC⟩ : ∃ C : Rat, Num.fv .f64 4607227454796291113 = C := ⟨_, rfl⟩
  obtain ⟨D, eD⟩ : ∃ C : Rat, Num.fv .f64 4562254508917369340 = C := ⟨_, rfl⟩
  rw [eC] at m1 m2 c1
  rw [eD] at c2
  obtain ⟨m, k1, k2⟩ := fmul y2 c1.1 (by rw [eT, eC]; grind) (by rw [eT, eC]; grind)
  rw [eC] at k2
  have l1 := k2.ge _ (rep_val _ y2) (by grind)
  have e600 : ((600 : Int) : Rat) = 600 := rfl
  have l2 := k2.le_int 600 (by decide) (by rw [e600]; grind)
  rw [e600] at l2
  have l1' : Num.fv .f64 Y ≤ Num.fv .f64 m := l1
  obtain ⟨s, s1, s2⟩ := fadd k2.fin c2.1 (by rw [eT, eD]; grind) (by rw [eT, eD]; grind)
  rw [eD] at s2
  have p10 : p2 10 = 1024 := by decide +kernel
  have pm : p2 (10 - 53) ≤ 1 / 1000000 := by decide +kernel
  have nr := s2.near64 10 (by decide) (by decide) (by rw [p10]; grind) (by rw [p10]; grind)
  generalize p2 (10 - 53) = ep at *
  refine ⟨X, Y, m, s, x1, y1, k1, s1, (lt_cmp x2 s2.fin ?_).1⟩
  have n2 := nr.2
  clear h hf k2 s2 x4 y4
  grind
end Go.Proofs.Ytkldgcgijkfpaaa

/- Plain law: lines that are moved and turned: their points and how long they are. Conditions: ways of at most 16 moves. -/
import Derived.Test.YtkldgcgijkfpaaaTul
namespace Go.Proofs.Ytkldgcgijkfpaaa
open Go.RowKit
open Num Quick

abbrev nu : Rat := 1 / 250000
/-- A number that turns and doubles, nearly. -/
structure Dbl (c d : Rat) : Prop where
  up : c * c + d * d ≤ 4 + nu
  lo : 4 - nu ≤ c * c + d * d
theorem Dbl.le {c d : Rat} (h : Dbl c d) : Le2 c d (2 + nu) := ⟨by decide +kernel, Rat.le_trans h.up (show (4 + nu : Rat) ≤ (2 + nu) * (2 + nu) by decide +kernel)⟩
theorem dbl_part {a : Nat} (fa : Fl .f32 a) (ia : InR (Num.fv .f32 a) (5 / 4)) : ∃ b, floatBits .mul .f32 a 1073741824 = some b ∧ Fl .f32 b ∧ InR (Num.fv .f32 b - 2 * Num.fv .f32 a) (1 / 4194304) := by
  have c2 : Fl .f32 1073741824 ∧ Num.fv .f32 1073741824 = 2 := by
    refine ⟨?_, ?_⟩
    · show (1073741824 : Nat) % FloatKind.f32.format.signWeight < FloatKind.f32.format.infRung
      decide +kernel
    · unfold Num.fv val rv p2
      decide +kernel
  obtain ⟨V, eV⟩ : ∃ V, Num.fv .f32 a = V := ⟨_, rfl⟩
  rw [eV] at ia
  obtain ⟨i1, i2⟩ := ia
  have h : InR (V * 2) 4 := by unfold InR; constructor <;> grind
  have t := fl_tops (in_le h (by decide +kernel))
  obtain ⟨b, b1, b2⟩ := fmul fa c2.1 (by rw [eV, c2.2]; exact t.1) (by rw [eV, c2.2]; exact t.2)
  rw [eV, c2.2] at b2
  have n := b2.near32 2 (by decide) (by decide) (by rw [p2_e2]; exact h.1) (by rw [p2_e2]; exact h.2)
  rw [p2_em22] at n
  refine ⟨b, b1, b2.fin, ?_⟩
  rw [eV]
  have n1 := n.1
  have n2 := n.2
  unfold InR
  constructor <;> grind
theorem dbl_ex {a c : Nat} (hu : Trn.Unit a c) : ∃ b1 b2, floatBits .mul .f32 a 1073741824 = some b1 ∧ floatBits .mul .f32 c 1073741824 = some b2 ∧ Fl .f32 b1 ∧ Fl .f32 b2 ∧ Dbl (Num.fv .f32 b1) (Num.fv .f32 b2) := by
  have up := hu.up
  have lo := hu.lo
  have hi := unit_in (show Num.fv .f32 a * Num.fv .f32 a + Num.fv .f32 c * Num.fv .f32 c ≤ 1 + un from hu.up)
  obtain ⟨b1, k1, f1, n1⟩ := dbl_part hu.f1 hi.1
  obtain ⟨b2, k2, f2, n2⟩ := dbl_part hu.f2 hi.2
  refine ⟨b1, b2, k1, k2, f1, f2, ?_⟩
  generalize Num.fv .f32 a = A at *
  generalize Num.fv .f32 c = C at *
  obtain ⟨e, he⟩ : ∃ e, Num.fv .f32 b1 - 2 * A = e := ⟨_, rfl⟩
  obtain ⟨g, hg⟩ : ∃ e, Num.fv .f32 b2 - 2 * C = e := ⟨_, rfl⟩
  rw [he] at n1
  rw [hg] at n2
  have q1 : Num.fv .f32 b1 = 2 * A + e := by grind
  have q2 : Num.fv .f32 b2 = 2 * C + g := by grind
  rw [q1, q2]
  have p1 := prod_in hi.1 n1 (by decide +kernel)
  have p2' := prod_in hi.2 n2 (by decide +kernel)
  have s1 := abs_sq n1.1 n1.2
  have s2 := abs_sq n2.1 n2.2
  have z1 := rsq_nn e
  have z2 := rsq_nn g
  rw [show (5 / 4 * (1 / 4194304) : Rat) = 5 / 16777216 by decide +kernel] at p1 p2'
  rw [show (1 / 4194304 * (1 / 4194304) : Rat) = 1 / 17592186044416 by decide +kernel] at s1 s2
  obtain ⟨a1, a2⟩ := p1
  obtain ⟨a3, a4⟩ := p2'
  have E : (2 * A + e) * (2 * A + e) + (2 * C + g) * (2 * C + g) = 4 * (A * A + C * C) + 4 * (A * e) + 4 * (C * g) + e * e + g * g := by grind
  unfold Trn.un at up lo
  constructor
  · rw [E]
    unfold nu
    generalize A * A + C * C = S at *
    generalize A * e = T1 at *
    generalize C * g = T2 at *
    generalize e * e = T3 at *
    generalize g * g = T4 at *
    clear E he hg q1 q2 hu hi n1 n2
    grind
  · rw [E]
    unfold nu
    generalize A * A + C * C = S at *
    generalize A * e = T1 at *
    generalize C * g = T2 at *
    generalize e * e = T3 at *
    generalize g * g = T4 at *
    clear E he hg q1 q2 hu hi n1 n2
    grind
/-- The length of a turned and doubled pair. -/
theorem Near2.turn {x y c d R e : Rat} (h : Near2 x y R e) (hb : Dbl c d) (R0 : 0 ≤ R) (R2 : R ≤ 2) (e0 : 0 ≤ e) (e1' : e ≤ 1) : Near2 (x * c - y * d) (x * d + y * c) (2 * R) (2 * e + 10 * nu) where
  up := by
    refine (h.up.mul hb.le).mono ?_
    have m := Rat.mul_le_mul_of_nonneg_right (show R + e ≤ 3 by grind) (show (0 : Rat) ≤ nu by decide +kernel)
    rw [show (R + e) * (2 + nu) = 2 * R + 2 * e + (R + e) * nu by grind]
    have k : (0 : Rat) ≤ nu := by decide +kernel
    generalize (R + e) * nu = q at *
    generalize nu = n at *
    grind
  lo := fun A hA => by
    have q := hA.sq
    rw [show (x * c - y * d) * (x * c - y * d) + (x * d + y * c) * (x * d + y * c) = (x * x + y * y) * (c * c + d * d) by grind] at q
    have q0 : 0 ≤ x * x + y * y := by have := rsq_nn x; have := rsq_nn y; grind
    have m1 := Rat.mul_le_mul_of_nonneg_left hb.lo q0
    have L : Le2 x y (A * (1 / 2 + nu)) := by
      refine ⟨Rat.mul_nonneg hA.nn (by decide +kernel), ?_⟩
      have k : (1 : Rat) ≤ (1 / 2 + nu) * (1 / 2 + nu) * (4 - nu) := by decide +kernel
      have m2 := Rat.mul_le_mul_of_nonneg_left k q0
      have m3 := Rat.mul_le_mul_of_nonneg_left (Rat.le_trans m1 q) (show (0 : Rat) ≤ (1 / 2 + nu) * (1 / 2 + nu) by decide +kernel)
      rw [show A * (1 / 2 + nu) * (A * (1 / 2 + nu)) = (1 / 2 + nu) * (1 / 2 + nu) * (A * A) by grind]
      refine Rat.le_trans ?_ m3
      rw [show (1 / 2 + nu) * (1 / 2 + nu) * ((x * x + y * y) * (4 - nu)) = (x * x + y * y) * ((1 / 2 + nu) * (1 / 2 + nu) * (4 - nu)) by grind]
      rw [Rat.mul_one] at m2
      exact m2
    have k := h.lo _ L
    by_cases c5 : A ≤ 5
    · have m := Rat.mul_le_mul_of_nonneg_right c5 (show (0 : Rat) ≤ nu by decide +kernel)
      rw [show A * (1 / 2 + nu) = A / 2 + A * nu by grind] at k
      generalize A * nu = q2 at *
      generalize nu = n at *
      clear L m1 q q0
      grind
    · have k0 : (0 : Rat) ≤ nu := by decide +kernel
      generalize nu = n at *
      clear L m1 q q0 k
      grind
/-- Points that are moved. -/
theorem moved_ex {s : Rat} {P : Nat → Nat × Nat} {m b1 b2 : Nat} (hW : Way s P m) (s0 : 0 ≤ s) (s2 : s ≤ 2) (hm : m ≤ 16) (f1 : Fl .f32 b1) (f2 : Fl .f32 b2) (i1 : InR (Num.fv .f32 b1) 2) (i2 : InR (Num.fv .f32 b2) 2) :
    ∃ Q : Nat → Nat × Nat, (∀ k, k < m + 1 → floatBits .add .f32 (P k).1 b1 = some (Q k).1) ∧ (∀ k, k < m + 1 → floatBits .add .f32 (P k).2 b2 = some (Q k).2) ∧ (∀ k, k < m + 1 → Cb 36 (Q k)) ∧ ∀ k, k < m → ∃ r, Pc (Q k) (Q (k + 1)) s (1 / 20000) r := by
  have one : ∀ {x b : Nat}, Fl .f32 x → Fl .f32 b → InR (Num.fv .f32 x) 33 → InR (Num.fv .f32 b) 2 → ∃ y, floatBits .add .f32 x b = some y ∧ Fl .f32 y ∧ InR (Num.fv .f32 y) 36 ∧ InR (Num.fv .f32 y - (Num.fv .f32 x + Num.fv .f32 b)) (1 / 262144) := fun {x b} fx fb ix ib => by
    generalize eX : Num.fv .f32 x = X at *
    generalize eB : Num.fv .f32 b = B at *
    obtain ⟨x1, x2⟩ := ix
    obtain ⟨c1, c2⟩ := ib
    have h : InR (X + B) 35 := by unfold InR; constructor <;> grind
    have t := fl_tops (in_le h (by decide +kernel))
    obtain ⟨y, y1, y2⟩ := fadd fx fb (by rw [eX, eB]; exact t.1) (by rw [eX, eB]; exact t.2)
    rw [eX, eB] at y2
    have n := y2.near32 6 (by decide) (by decide) (by rw [p2_e6]; have := h.1; grind) (by rw [p2_e6]; have := h.2; grind)
    rw [p2_em18] at n
    have n1 := n.1
    have n2 := n.2
    have h1 := h.1
    have h2 := h.2
    generalize hY : Num.fv .f32 y = Y at *
    refine ⟨y, y1, y2.fin, ?_, ?_⟩
    · rw [hY]; unfold InR; constructor <;> grind
    · rw [hY]; unfold InR; constructor <;> grind
  obtain ⟨Q, hQ⟩ : ∃ Q : Nat → Nat × Nat, ∀ k, k < m + 1 → floatBits .add .f32 (P k).1 b1 = some (Q k).1 ∧ floatBits .add .f32 (P k).2 b2 = some (Q k).2 ∧ Cb 36 (Q k) ∧ InR (Num.fv .f32 (Q k).1 - (Num.fv .f32 (P k).1 + Num.fv .f32 b1)) (1 / 262144) ∧ InR (Num.fv .f32 (Q k).2 - (Num.fv .f32 (P k).2 + Num.fv .f32 b2)) (1 / 262144) := by
    refine ⟨fun k => ((floatBits .add .f32 (P k).1 b1).getD 0, (floatBits .add .f32 (P k).2 b2).getD 0), fun k hk => ?_⟩
    have c := hW.cb s0 s2 hm k (by omega)
    obtain ⟨x, x1, x2, x3, x4⟩ := one c.1 f1 c.2.2.1 i1
    obtain ⟨y, y1, y2, y3, y4⟩ := one c.2.1 f2 c.2.2.2 i2
    simp only [x1, y1, Option.getD_some]
    exact ⟨trivial, trivial, ⟨x2, y2, x3, y3⟩, x4, y4⟩
  refine ⟨Q, fun k hk => (hQ k hk).1, fun k hk => (hQ k hk).2.1, fun k hk => (hQ k hk).2.2.1, fun k hk => ?_⟩
  obtain ⟨_, _, c1, a1, a2⟩ := hQ k (by omega)
  obtain ⟨_, _, c2, a3, a4⟩ := hQ (k + 1) (by omega)
  have N := (hW.mv k hk).near s0 s2
  have N2 := N.shift (x' := Num.fv .f32 (Q (k + 1)).1 - Num.fv .f32 (Q k).1) (y' := Num.fv .f32 (Q (k + 1)).2 - Num.fv .f32 (Q k).2) (e := 1 / 131072) (by
    obtain ⟨u1, u2⟩ := a1
    obtain ⟨u3, u4⟩ := a3
    unfold InR
    constructor <;> grind) (by
    obtain ⟨u1, u2⟩ := a2
    obtain ⟨u3, u4⟩ := a4
    unfold InR
    constructor <;> grind)
  obtain ⟨r, hr⟩ := pc_ex c1.1 c1.2.1 c2.1 c2.2.1 s0 (by grind) (by decide +kernel) (by decide +kernel) N2
  exact ⟨r, hr.words, hr.fin, in_le hr.near (by decide +kernel)⟩
/-- Points that are turned and doubled. -/
structure Turned (P T : Nat → Nat × Nat) (b1 b2 k : Nat) : Prop where
  call : ∀ w : World, Calls Try.prog 46 #[.complex .f32 (P k).1 (P k).2, .complex .f32 b1 b2] w fun e w' => e = .returned (.complex .f32 (T k).1 (T k).2) ∧ w' = w
  cb : Cb 70 (T k)
  x : InR (Num.fv .f32 (T k).1 - (Num.fv .f32 (P k).1 * Num.fv .f32 b1 - Num.fv .f32 (P k).2 * Num.fv .f32 b2)) (Aa * (k : Rat) * (2 + nu) * rho + tinr)
  y : InR (Num.fv .f32 (T k).2 - (Num.fv .f32 (P k).1 * Num.fv .f32 b2 + Num.fv .f32 (P k).2 * Num.fv .f32 b1)) (Aa * (k : Rat) * (2 + nu) * rho + tinr)
theorem far_in {k : Nat} (hk : k ≤ 16) : Aa * (k : Rat) * (2 + nu) ≤ 65 ∧ Aa * (k : Rat) * (2 + nu) * rho + tinr ≤ 1 / 120000 := by
  have h := Rat.natCast_le_natCast.2 hk
  have e : ((16 : Nat) : Rat) = 16 := rfl
  rw [e] at h
  have m1 := Rat.mul_le_mul_of_nonneg_left h (show (0 : Rat) ≤ Aa by decide +kernel)
  have m2 := Rat.mul_le_mul_of_nonneg_right m1 (show (0 : Rat) ≤ 2 + nu by decide +kernel)
  have m3 := Rat.mul_le_mul_of_nonneg_right m2 (show (0 : Rat) ≤ rho by decide +kernel)
  have a : (Aa * 16 * (2 + nu) : Rat) ≤ 65 := by decide +kernel
  have b : (Aa * 16 * (2 + nu) * rho + tinr : Rat) ≤ 1 / 120000 := by decide +kernel
  generalize Aa * (k : Rat) * (2 + nu) = q at *
  generalize q * rho = r at *
  generalize Aa * 16 * (2 + nu) * rho = z at *
  generalize Aa * 16 * (2 + nu) = y at *
  generalize tinr = t at *
  constructor <;> grind
theorem turned_ex {s : Rat} {P : Nat → Nat × Nat} {m b1 b2 : Nat} (hW : Way s P m) (s0 : 0 ≤ s) (s2 : s ≤ 2) (hm : m ≤ 16) (f1 : Fl .f32 b1) (f2 : Fl .f32 b2) (hb : Dbl (Num.fv .f32 b1) (Num.fv .f32 b2)) :
    ∃ T : Nat → Nat × Nat, (∀ k, k < m + 1 → Turned P T b1 b2 k) ∧ ∀ k, k < m → ∃ r, Pc (T k) (T (k + 1)) (2 * s) (1 / 7000) r := by
  have md : (33 : Rat) ≤ mid := by decide +kernel
  have md3 : (3 : Rat) ≤ mid := by decide +kernel
  have hb3 := hb.le.mono (show (2 + nu : Rat) ≤ 3 by decide +kernel)
  have one : ∀ k, k < m + 1 → ∃ t : Nat × Nat, (∀ w : World, Calls Try.prog 46 #[.complex .f32 (P k).1 (P k).2, .complex .f32 b1 b2] w fun e w' => e = .returned (.complex .f32 t.1 t.2) ∧ w' = w) ∧ Cb 70 t ∧
      InR (Num.fv .f32 t.1 - (Num.fv .f32 (P k).1 * Num.fv .f32 b1 - Num.fv .f32 (P k).2 * Num.fv .f32 b2)) (Aa * (k : Rat) * (2 + nu) * rho + tinr) ∧ InR (Num.fv .f32 t.2 - (Num.fv .f32 (P k).1 * Num.fv .f32 b2 + Num.fv .f32 (P k).2 * Num.fv .f32 b1)) (Aa * (k : Rat) * (2 + nu) * rho + tinr) := fun k hk => by
    have c := hW.cb s0 s2 hm k (by omega)
    have L := ((hW.far s0 s2 k (by omega)).2.2).mul hb.le
    have F := far_in (show k ≤ 16 by omega)
    obtain ⟨u, v, u1, u2, u3⟩ := mul_num c.1 c.2.1 f1 f2 (in_le c.2.2.1 md) (in_le c.2.2.2 md) (in_le hb3.fst md3) (in_le hb3.snd md3)
    have big : Aa * (k : Rat) * (2 + nu) ≤ 1099511627776 := by have := F.1; grind
    have e1' := rel32 u2 L.fst big
    have e2' := rel32 u3 L.snd big
    refine ⟨(u, v), u1, ⟨u2.fin, u3.fin, ?_, ?_⟩, e1', e2'⟩
    · have l1 := (in_le L.fst F.1)
      have l2 := (in_le e1' F.2)
      generalize Num.fv .f32 u = U at *
      generalize Num.fv .f32 (P k).1 * Num.fv .f32 b1 - Num.fv .f32 (P k).2 * Num.fv .f32 b2 = W at *
      obtain ⟨p1, p2'⟩ := l1
      obtain ⟨q1, q2⟩ := l2
      show InR U 70
      unfold InR
      constructor <;> grind
    · have l1 := (in_le L.snd F.1)
      have l2 := (in_le e2' F.2)
      show InR (Num.fv .f32 v) 70
      generalize Num.fv .f32 v = U at *
      generalize Num.fv .f32 (P k).1 * Num.fv .f32 b2 + Num.fv .f32 (P k).2 * Num.fv .f32 b1 = W at *
      obtain ⟨p1, p2'⟩ := l1
      obtain ⟨q1, q2⟩ := l2
      unfold InR
      constructor <;> grind
  obtain ⟨T, hT⟩ : ∃ T : Nat → Nat × Nat, ∀ k, k < m + 1 → Turned P T b1 b2 k := by
    refine ⟨fun k => if h : k < m + 1 then Classical.choose (one k h) else (0, 0), fun k h => ?_⟩
    have e : (if h : k < m + 1 then Classical.choose (one k h) else (0, 0)) = Classical.choose (one k h) := dif_pos h
    obtain ⟨a1, a2, a3, a4⟩ := Classical.choose_spec (one k h)
    rw [← e] at a1 a2 a3 a4
    exact ⟨a1, a2, a3, a4⟩
  refine ⟨T, hT, fun k hk => ?_⟩
  have A := hT k (by omega)
  have B := hT (k + 1) (by omega)
  have N := ((hW.mv k hk).near s0 s2).turn hb s0 s2 (by decide +kernel) (by decide +kernel)
  have FA := (far_in (show k ≤ 16 by omega)).2
  have FB := (far_in (show k + 1 ≤ 16 by omega)).2
  have ax := in_le A.x FA
  have ay := in_le A.y FA
  have bx := in_le B.x FB
  have by_ := in_le B.y FB
  have N2 := N.shift (x' := Num.fv .f32 (T (k + 1)).1 - Num.fv .f32 (T k).1) (y' := Num.fv .f32 (T (k + 1)).2 - Num.fv .f32 (T k).2) (e := 1 / 60000) (by
    rw [show (Num.fv .f32 (P (k + 1)).1 - Num.fv .f32 (P k).1) * Num.fv .f32 b1 - (Num.fv .f32 (P (k + 1)).2 - Num.fv .f32 (P k).2) * Num.fv .f32 b2 = (Num.fv .f32 (P (k + 1)).1 * Num.fv .f32 b1 - Num.fv .f32 (P (k + 1)).2 * Num.fv .f32 b2) - (Num.fv .f32 (P k).1 * Num.fv .f32 b1 - Num.fv .f32 (P k).2 * Num.fv .f32 b2) by grind]
    generalize Num.fv .f32 (P (k + 1)).1 * Num.fv .f32 b1 - Num.fv .f32 (P (k + 1)).2 * Num.fv .f32 b2 = W1 at *
    generalize Num.fv .f32 (P k).1 * Num.fv .f32 b1 - Num.fv .f32 (P k).2 * Num.fv .f32 b2 = W2 at *
    obtain ⟨u1, u2⟩ := ax
    obtain ⟨u3, u4⟩ := bx
    clear hT A B N ay by_
    unfold InR
    constructor <;> grind) (by
    rw [show (Num.fv .f32 (P (k + 1)).1 - Num.fv .f32 (P k).1) * Num.fv .f32 b2 + (Num.fv .f32 (P (k + 1)).2 - Num.fv .f32 (P k).2) * Num.fv .f32 b1 = (Num.fv .f32 (P (k + 1)).1 * Num.fv .f32 b2 + Num.fv .f32 (P (k + 1)).2 * Num.fv .f32 b1) - (Num.fv .f32 (P k).1 * Num.fv .f32 b2 + Num.fv .f32 (P k).2 * Num.fv .f32 b1) by grind]
    generalize Num.fv .f32 (P (k + 1)).1 * Num.fv .f32 b2 + Num.fv .f32 (P (k + 1)).2 * Num.fv .f32 b1 = W1 at *
    generalize Num.fv .f32 (P k).1 * Num.fv .f32 b2 + Num.fv .f32 (P k).2 * Num.fv .f32 b1 = W2 at *
    obtain ⟨u1, u2⟩ := ay
    obtain ⟨u3, u4⟩ := by_
    clear hT A B N ax bx
    unfold InR
    constructor <;> grind)
  obtain ⟨r, hr⟩ := pc_ex A.cb.1 A.cb.2.1 B.cb.1 B.cb.2.1 (by grind) (by grind) (by decide +kernel) (by decide +kernel) N2
  exact ⟨r, hr.words, hr.fin, in_le hr.near (by decide +kernel)⟩
end Go.Proofs.Ytkldgcgijkfpaaa

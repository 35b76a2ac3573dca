/- Walks: how long a piece is, how long a line is, nearly. Conditions: numbers of at most 16 in their parts, at most 13 points. -/
import Derived.Test.YtkldgcgijkfpaaaCod
namespace Go.Proofs.Ytkldgcgijkfpaaa
open Go.RowKit
open Num Quick
attribute [local go_sem] run_store_fl run_store_cx

/-- How far a length may be off. -/
abbrev eps : Rat := 1 / 131072
theorem p2_5 : p2 5 = 32 := by decide +kernel
theorem p2_6 : p2 6 = 64 := by decide +kernel
theorem p2_m19 : p2 (-19) = 1 / 524288 := by decide +kernel
theorem p2_m18 : p2 (-18) = 1 / 262144 := by decide +kernel
/-- A piece's length, as the program gives it. -/
structure Piece (a b : Nat × Nat) (r : Nat) : Prop where
  words : ∃ u v, floatBits .sub .f32 b.1 a.1 = some u ∧ floatBits .sub .f32 b.2 a.2 = some v ∧ (∀ w : World, Calls Try.prog 18 #[.complex .f32 u v] w fun e w' => e = .returned (.float .f32 r) ∧ w' = w) ∧
    InR (Num.fv .f32 u - (Num.fv .f32 b.1 - Num.fv .f32 a.1)) (1 / 524288) ∧ InR (Num.fv .f32 v - (Num.fv .f32 b.2 - Num.fv .f32 a.2)) (1 / 524288) ∧ Fl .f32 u ∧ Fl .f32 v
  fin : Fl .f32 r
  nn : 0 ≤ Num.fv .f32 r
  up : Le2 (Num.fv .f32 b.1 - Num.fv .f32 a.1) (Num.fv .f32 b.2 - Num.fv .f32 a.2) (Num.fv .f32 r + eps)
  lo : ∀ A, Le2 (Num.fv .f32 b.1 - Num.fv .f32 a.1) (Num.fv .f32 b.2 - Num.fv .f32 a.2) A → Num.fv .f32 r ≤ A + eps
  zero : Num.fv .f32 b.1 = Num.fv .f32 a.1 → Num.fv .f32 b.2 = Num.fv .f32 a.2 → Num.fv .f32 r = 0
  int : ∀ B : Nat, B ≤ 16 → Cb ((B : Nat) : Rat) a → Cb ((B : Nat) : Rat) b → Num.fv .f32 r ≤ ((3 * B : Nat) : Rat)
theorem sq_le3 {x y : Rat} {B : Nat} (hx : InR x ((2 * B : Nat) : Rat)) (hy : InR y ((2 * B : Nat) : Rat)) : x * x + y * y ≤ ((3 * B : Nat) : Rat) * ((3 * B : Nat) : Rat) := by
  have h1 := abs_sq hx.1 hx.2
  have h2 := abs_sq hy.1 hy.2
  have e1 : ((2 * B : Nat) : Rat) = 2 * (B : Rat) := by rw [Rat.natCast_mul]; rfl
  have e2 : ((3 * B : Nat) : Rat) = 3 * (B : Rat) := by rw [Rat.natCast_mul]; rfl
  rw [e1] at h1 h2
  rw [e2]
  have hs := rsq_nn (B : Rat)
  grind
theorem rsub_in {x : Rat} {w B : Nat} (h : Num.FR .f32 x w) (hx : InR x (B : Rat)) (hB : B ≤ 32) : InR (Num.fv .f32 w - x) (1 / 524288) := by
  have e32 : ((32 : Nat) : Rat) = 32 := rfl
  have hb := Rat.natCast_le_natCast.2 hB
  rw [e32] at hb
  have hx1 := hx.1
  have hx2 := hx.2
  have n := h.near32 5 (by decide) (by decide) (by rw [p2_5]; grind) (by rw [p2_5]; grind)
  rw [show (5 : Int) - 24 = -19 by decide, p2_m19] at n
  have n1 := n.1
  have n2 := n.2
  unfold InR
  constructor <;> grind
theorem piece_ex {a b : Nat × Nat} (ha : Cb ((16 : Nat) : Rat) a) (hb : Cb ((16 : Nat) : Rat) b) : ∃ r, Piece a b r := by
  have sx := in_sub hb.2.2.1 ha.2.2.1
  have sy := in_sub hb.2.2.2 ha.2.2.2
  rw [nat_add] at sx sy
  obtain ⟨u, u1, u2⟩ := fsub hb.1 ha.1 (small_top sx (by omega)).1 (small_top sx (by omega)).2
  obtain ⟨v, v1, v2⟩ := fsub hb.2.1 ha.2.1 (small_top sy (by omega)).1 (small_top sy (by omega)).2
  have iu := in_rnd u2 sx (by omega)
  have iv := in_rnd v2 sy (by omega)
  have du := rsub_in u2 sx (by omega)
  have dv := rsub_in v2 sy (by omega)
  obtain ⟨r, r1, r2⟩ := long_num u2.fin v2.fin (small_mid iu (by omega)) (small_mid iv (by omega))
  have h0 := r2.nonneg
  obtain ⟨X, eX⟩ : ∃ X : Rat, Num.fv .f32 b.1 - Num.fv .f32 a.1 = X := ⟨_, rfl⟩
  obtain ⟨Y, eY⟩ : ∃ Y : Rat, Num.fv .f32 b.2 - Num.fv .f32 a.2 = Y := ⟨_, rfl⟩
  rw [eX] at du
  rw [eY] at dv
  have e32 : ((16 + 16 : Nat) : Rat) = 32 := rfl
  have nv : 0 ≤ Num.fv .f32 u * Num.fv .f32 u + Num.fv .f32 v * Num.fv .f32 v := by
    have := rsq_nn (Num.fv .f32 u)
    have := rsq_nn (Num.fv .f32 v)
    grind
  have bu := abs_sq iu.1 iu.2
  have bv := abs_sq iv.1 iv.2
  rw [e32] at bu bv
  obtain ⟨k1, k2⟩ := root_near32 r2 6 (by decide) (by decide) nv (by rw [p2_6]; grind)
  rw [show (6 : Int) - 24 = -18 by decide, p2_m18] at k1 k2
  have h0' : 0 ≤ Num.fv .f32 r := h0
  refine ⟨r, ⟨⟨u, v, u1, v1, r1, by rw [eX]; exact du, by rw [eY]; exact dv, u2.fin, v2.fin⟩, r2.fin, h0, ?_, fun A hA => ?_, fun z1 z2 => ?_, fun B hB ca cb => ?_⟩⟩
  · rw [eX, eY]
    have L1 : Le2 (Num.fv .f32 u) (Num.fv .f32 v) (Num.fv .f32 r + 1 / 262144) := ⟨by grind, k1⟩
    have L2 : Le2 (X - Num.fv .f32 u) (Y - Num.fv .f32 v) (2 * (1 / 524288)) := Le2.small (by unfold InR at *; constructor <;> grind) (by unfold InR at *; constructor <;> grind)
    have L3 := L1.add L2
    rw [show Num.fv .f32 u + (X - Num.fv .f32 u) = X by grind, show Num.fv .f32 v + (Y - Num.fv .f32 v) = Y by grind] at L3
    exact L3.mono (by unfold eps; grind)
  · rw [eX, eY] at hA
    have L2 : Le2 (Num.fv .f32 u - X) (Num.fv .f32 v - Y) (2 * (1 / 524288)) := Le2.small du dv
    have L3 := hA.add L2
    rw [show X + (Num.fv .f32 u - X) = Num.fv .f32 u by grind, show Y + (Num.fv .f32 v - Y) = Num.fv .f32 v by grind] at L3
    have := k2 _ L3.nn L3.sq
    unfold eps
    grind
  · have fz : ∀ {w : Nat} {x : Rat}, Num.FR .f32 x w → x = 0 → Num.fv .f32 w = 0 := fun {w x} h e => by
      rw [e] at h
      have a := h.le_int 0 (by decide) (by rw [Rat.intCast_zero]; exact Rat.le_refl)
      have b := h.ge_int 0 (by decide) (by rw [Rat.intCast_zero]; exact Rat.le_refl)
      rw [Rat.intCast_zero] at a b
      grind
    have u0 := fz u2 (by rw [z1]; grind)
    have v0 := fz v2 (by rw [z2]; grind)
    have hr := rep_nat .f32 (0 : Int) (by omega)
    have := r2.le _ hr (by rw [Rat.intCast_zero]; exact Rat.le_refl) (by rw [u0, v0, Rat.intCast_zero]; grind)
    rw [Rat.intCast_zero] at this
    have this' : Num.fv .f32 r ≤ 0 := this
    grind
  · have tx := in_sub cb.2.2.1 ca.2.2.1
    have ty := in_sub cb.2.2.2 ca.2.2.2
    rw [nat_add, show B + B = 2 * B by omega] at tx ty
    have jx := in_rnd u2 tx (by omega)
    have jy := in_rnd v2 ty (by omega)
    have hr := rep_nat .f32 ((3 * B : Nat) : Int) (by omega)
    exact r2.le _ hr Rat.natCast_nonneg (sq_le3 jx jy)
open Classical in
/-- The piece's word. -/
noncomputable def pcw (a b : Nat × Nat) : Nat := if h : ∃ r, Piece a b r then Classical.choose h else 0
theorem pcw_ok {a b : Nat × Nat} (ha : Cb ((16 : Nat) : Rat) a) (hb : Cb ((16 : Nat) : Rat) b) : Piece a b (pcw a b) := by
  unfold pcw
  rw [dif_pos (piece_ex ha hb)]
  exact Classical.choose_spec (piece_ex ha hb)
/-- The sum of the pieces, as the program adds them. -/
noncomputable def lsum (f : Nat → Nat × Nat) : Nat → Nat
  | 0 => 0
  | 1 => 0
  | k + 2 => (floatBits .add .f32 (lsum f (k + 1)) (pcw (f k) (f (k + 1)))).getD 0
/-- .. as numbers. -/
noncomputable def tsum (f : Nat → Nat × Nat) : Nat → Rat
  | 0 => 0
  | 1 => 0
  | k + 2 => tsum f (k + 1) + Num.fv .f32 (pcw (f k) (f (k + 1)))
abbrev del : Rat := 1 / 65536
theorem p2_8 : p2 8 = 256 := by decide +kernel
theorem p2_m16 : p2 (-16) = 1 / 65536 := by decide +kernel
theorem zero_fin : Fl .f32 0 ∧ Num.fv .f32 0 = 0 := c0
theorem lsum_ok {f : Nat → Nat × Nat} {n B : Nat} (hB : B ≤ 16) (hn : 3 * B * n ≤ 256) (hf : ∀ i, i < n → Cb ((B : Nat) : Rat) (f i)) : ∀ k, k + 1 ≤ n → Fl .f32 (lsum f (k + 1)) ∧ 0 ≤ Num.fv .f32 (lsum f (k + 1)) ∧ Num.fv .f32 (lsum f (k + 1)) ≤ ((3 * B * k : Nat) : Rat) ∧
    InR (Num.fv .f32 (lsum f (k + 1)) - tsum f (k + 1)) ((k : Rat) * del) ∧ (∀ j, k = j + 1 → floatBits .add .f32 (lsum f (j + 1)) (pcw (f j) (f (j + 1))) = some (lsum f (k + 1)))
  | 0, _ => by
    refine ⟨zero_fin.1, ?_, ?_, ?_, fun j h => absurd h (by omega)⟩
    · show 0 ≤ Num.fv .f32 0
      rw [zero_fin.2]
      exact Rat.le_refl
    · show Num.fv .f32 0 ≤ _
      rw [zero_fin.2]
      exact Rat.natCast_nonneg
    · show InR (Num.fv .f32 0 - 0) _
      rw [zero_fin.2]
      have e : ((0 : Nat) : Rat) = 0 := rfl
      rw [e]
      unfold InR
      constructor <;> grind
  | k + 1, h => by
    obtain ⟨h1, h2, h3, h4, _⟩ := lsum_ok hB hn hf k (by omega)
    have m16 : ((B : Nat) : Rat) ≤ ((16 : Nat) : Rat) := Rat.natCast_le_natCast.2 hB
    have ca := hf k (by omega)
    have cb := hf (k + 1) (by omega)
    have P := pcw_ok (ca.mono m16) (cb.mono m16)
    have hp := P.int B hB ca cb
    have hp0 := P.nn
    obtain ⟨r, er⟩ : ∃ r, pcw (f k) (f (k + 1)) = r := ⟨_, rfl⟩
    obtain ⟨s, es⟩ : ∃ s, lsum f (k + 1) = s := ⟨_, rfl⟩
    obtain ⟨T, eT⟩ : ∃ T, tsum f (k + 1) = T := ⟨_, rfl⟩
    have hfin := P.fin
    rw [er] at hp hp0 hfin
    rw [es] at h1 h2 h3
    rw [es, eT] at h4
    have hsum : Num.fv .f32 s + Num.fv .f32 r ≤ ((3 * B * (k + 1) : Nat) : Rat) := by
      have e : ((3 * B * (k + 1) : Nat) : Rat) = ((3 * B * k : Nat) : Rat) + ((3 * B : Nat) : Rat) := by rw [nat_add]; congr 1
      rw [e]
      grind
    have hmul : 3 * B * (k + 1) ≤ 3 * B * n := Nat.mul_le_mul_left _ (show k + 1 ≤ n by omega)
    have hle256 : ((3 * B * (k + 1) : Nat) : Rat) ≤ 256 := by
      have := Rat.natCast_le_natCast.2 (show 3 * B * (k + 1) ≤ 256 by omega)
      have e : ((256 : Nat) : Rat) = 256 := rfl
      rwa [e] at this
    have t : (256 : Rat) ≤ top := by decide +kernel
    obtain ⟨M, eM⟩ : ∃ M : Rat, top = M := ⟨_, rfl⟩
    rw [eM] at t
    obtain ⟨q, q1, q2⟩ := fadd h1 hfin (by rw [eM]; grind) (by rw [eM]; grind)
    have eq : lsum f (k + 1 + 1) = q := by
      show (floatBits .add .f32 (lsum f (k + 1)) (pcw (f k) (f (k + 1)))).getD 0 = q
      rw [er, es, q1]
      rfl
    have et : tsum f (k + 1 + 1) = T + Num.fv .f32 r := by
      show tsum f (k + 1) + Num.fv .f32 (pcw (f k) (f (k + 1))) = _
      rw [er, eT]
    rw [eq, et]
    have g0 := q2.ge_int 0 (by decide) (by rw [Rat.intCast_zero]; grind)
    rw [Rat.intCast_zero] at g0
    have g1 := q2.le _ (rep_nat .f32 ((3 * B * (k + 1) : Nat) : Int) (by omega)) hsum
    have n := q2.near32 8 (by decide) (by decide) (by rw [p2_8]; grind) (by rw [p2_8]; grind)
    rw [show (8 : Int) - 24 = -16 by decide, p2_m16] at n
    have n1 := n.1
    have n2 := n.2
    refine ⟨q2.fin, g0, g1, ?_, fun j hj => ?_⟩
    · have e : ((k + 1 : Nat) : Rat) = (k : Rat) + 1 := by rw [← nat_add]; rfl
      rw [e]
      unfold InR at *
      unfold del at *
      constructor <;> grind
    · obtain rfl : k = j := by omega
      rw [er, es]
      exact q1
set_option maxRecDepth 100000 in
set_option maxHeartbeats 2000000 in
theorem longOfLine_ok {f : Nat → Nat × Nat} {n B : Nat} (A : Option Addr) (c : Nat) (w : World) (hB : B ≤ 16) (hn1 : 1 ≤ n) (hn2 : n ≤ 64) (hn : 3 * B * n ≤ 256) (hf : ∀ i, i < n → Cb ((B : Nat) : Rat) (f i)) (hA : Rd w w.heap.size 1 A n ((List.range n).map (fun i => cxv (f i)))) :
    Calls Try.prog 35 #[.slice A n c] w fun e w' => e = .returned (.float .f32 (lsum f n)) ∧ Below w.heap.size w w' := by
  have LS := Lib.hid (lsum_ok hB hn hf)
  have m16 : ((B : Nat) : Rat) ≤ ((16 : Nat) : Rat) := Rat.natCast_le_natCast.2 hB
  have PC : Hid (∀ k, k + 1 < n → Piece (f k) (f (k + 1)) (pcw (f k) (f (k + 1)))) := Lib.hid fun k hk => pcw_ok ((hf k (by omega)).mono m16) ((hf (k + 1) hk).mono m16)
  have HA := Lib.hid hA
  clear hA m16 hn hf hB
  go_enter Try.func35, Try.ntmps35
  go_wp2
  go_loopw [3, 4] (fun ss si wr => ∃ i x : Nat, si = .int .i64 (i : Int) ∧ 1 ≤ i ∧ i ≤ n ∧ ss = .float .f32 x ∧ Hid (x = lsum f i) ∧ Hid (Below w.heap.size w wr)) (fun _ si _ => n - (intOf si).toNat)
  case atStart => exact ⟨1, 0, rfl, Nat.le_refl _, hn1, rfl, Lib.hid rfl, Lib.hid (Below.refl _ _)⟩
  case round =>
    obtain ⟨i, x, rfl, hi1, hin, rfl, HX, V⟩ := hrel
    by_cases hlt : i < n
    · have hii : (i : Int) < (n : Int) := by omega
      obtain ⟨k, hk⟩ : ∃ k, k + 1 = i := ⟨i - 1, by omega⟩
      have hk1 : (i : Int) - 1 = (k : Int) := by omega
      have wk : IntKind.i64.wrap (k : Int) = (k : Int) := IntWalk.i64_in _ (by omega)
      have hkn : (k : Int) < (n : Int) := by omega
      have hk0 : (0 : Int) ≤ (k : Int) := by omega
      have hi0 : (0 : Int) ≤ (i : Int) := by omega
      have P := PC.out k (by omega)
      have S1 := (LS.out (k + 1) (by omega)).2.2.2.2 k rfl
      rw [hk] at P S1
      rw [← HX.out] at S1
      obtain ⟨s', es'⟩ : ∃ s, lsum f (i + 1) = s := ⟨_, rfl⟩
      obtain ⟨r, er⟩ : ∃ r, pcw (f k) (f i) = r := ⟨_, rfl⟩
      rw [es', er] at S1
      rw [er] at P
      obtain ⟨b, off, rfl, hbb, hc⟩ := (HA.out.below V.out).2 (by omega)
      have cI := hc i _ (range_map_get (fun i => cxv (f i)) hlt)
      have cK := hc k _ (range_map_get (fun i => cxv (f i)) (show k < n by omega))
      obtain ⟨u, v, u1, v1, lo, _⟩ := P.words
      obtain ⟨pi, epi⟩ : ∃ p, f i = p := ⟨_, rfl⟩
      obtain ⟨pk, epk⟩ : ∃ p, f k = p := ⟨_, rfl⟩
      rw [epi] at cI u1 v1
      rw [epk] at cK u1 v1
      obtain ⟨a1, a2⟩ := pk
      obtain ⟨b1, b2⟩ := pi
      unfold cxv at cI cK
      simp only at cI cK u1 v1
      have SU : Hid (∀ w : World, Calls Try.prog 51 #[.complex .f32 b1 b2, .complex .f32 a1 a2] w fun e w' => e = .returned (.complex .f32 u v) ∧ w' = w) := Lib.hid fun w => by
        have q1 := r32 u1
        have q2 := r32 v1
        go_enter Try.func51, Try.ntmps51
        go_wp2
        go_ret
        exact ⟨rfl, rfl⟩
      have LO := Lib.hid lo
      have q1 := r32 S1
      have XN := Lib.hid es'
      clear hc u1 v1 lo P S1 epi epk er es' hk HX
      go_wp2
      go_quiet (first
        | (go_at_call 51; with_reducible exact Calls.quiet_of_same (SU.out _))
        | (go_at_call 18; with_reducible exact Calls.quiet_of_same (LO.out _)))
      generalize hw : World.drewN wr _ = w6
      have V6 : Hid (Below w.heap.size w w6) := Lib.hid (V.out.trans (by rw [← hw]; exact ⟨rfl, rfl, rfl, Nat.le_refl _, fun _ _ => rfl⟩))
      clear hw cI cK V SU LO q1
      go_wp2
      go_roundw
      case rel => exact ⟨i + 1, s', by go_num, by omega, by omega, rfl, Lib.hid XN.out.symm, V6⟩
      case measure => simp [intOf]; omega
    · obtain rfl : n = i := by omega
      have hii : ¬ (n : Int) < (n : Int) := by omega
      have hx := HX.out
      subst hx
      clear HX
      go_wp2
      go_ret
      exact ⟨rfl, V.out⟩
theorem LongOfLine_ok {f : Nat → Nat × Nat} {n B : Nat} (A : Option Addr) (c : Nat) (w : World) (hB : B ≤ 16) (hn1 : 1 ≤ n) (hn2 : n ≤ 64) (hn : 3 * B * n ≤ 256) (hf : ∀ i, i < n → Cb ((B : Nat) : Rat) (f i)) (hA : Rd w w.heap.size 1 A n ((List.range n).map (fun i => cxv (f i)))) :
    Calls Try.prog 10 #[.slice A n c] w fun e w' => e = .returned (.tuple #[.float .f32 (lsum f n), .bool true]) ∧ Below w.heap.size w w' := by
  have AP := Lib.hid (arePoints_w f A n c w (by omega) hf hA)
  have LO := Lib.hid (longOfLine_ok A c w hB hn1 hn2 hn hf hA)
  have FI : Fl .f32 (lsum f n) := by
    have := (lsum_ok hB hn hf (n - 1) (by omega)).1
    rwa [show n - 1 + 1 = n by omega] at this
  have IN := Lib.hid (fun w => ifNumber_num FI w)
  generalize lsum f n = l at *
  clear hf hA hn hB FI
  go_enter Try.func10, Try.ntmps10
  go_wp2_with fail
  refine AP.out.mono ?_
  rintro e w1 ⟨rfl, hw1⟩
  obtain rfl := hw1.symm
  go_wp2_with fail
  refine LO.out.mono ?_
  rintro e w2 ⟨rfl, hb⟩
  have V := Lib.hid hb
  clear hb
  go_wp2_with fail
  refine (IN.out _).mono ?_
  rintro e w3 ⟨rfl, hw3⟩
  obtain rfl := hw3.symm
  go_wp2
  go_ret2
  exact ⟨rfl, V.out⟩
end Go.Proofs.Ytkldgcgijkfpaaa

/- Walks: the nearest point, how far lists of points are apart. Conditions: points with finite parts of at most 1000. -/
import Derived.Test.YtbpgbplepebcjaaKga
import Derived.Test.YtbpgbplepebcjaaMp
namespace Go.Proofs.Ytbpgbplepebcjaa
open Go.RowKit
open Num Quick
attribute [local go_sem] run_store_fl run_store_cx

/-- A point that is small. -/
def PlOk (p : Nat × Nat) : Prop := Fl .f32 p.1 ∧ Fl .f32 p.2 ∧ InR (Num.fv .f32 p.1) 1000 ∧ InR (Num.fv .f32 p.2) 1000
/-- The difference of two points, and its length. -/
structure DistW (p q : Nat × Nat) (t : Nat × Nat × Nat) : Prop where
  s1 : floatBits .sub .f32 p.1 q.1 = some t.1
  s2 : floatBits .sub .f32 p.2 q.2 = some t.2.1
  f1 : FR .f32 (Num.fv .f32 p.1 - Num.fv .f32 q.1) t.1
  f2 : FR .f32 (Num.fv .f32 p.2 - Num.fv .f32 q.2) t.2.1
  sb : ∀ w : World, Calls Try.prog 53 #[.complex .f32 p.1 p.2, .complex .f32 q.1 q.2] w fun e w' => e = .returned (.complex .f32 t.1 t.2.1) ∧ w' = w
  lw : LongW t.1 t.2.1 t.2.2
theorem sub_w {a b c d x y : Nat} (h1 : floatBits .sub .f32 a c = some x) (h2 : floatBits .sub .f32 b d = some y) (w : World) : Calls Try.prog 53 #[.complex .f32 a b, .complex .f32 c d] w fun e w' => e = .returned (.complex .f32 x y) ∧ w' = w := by
  have k1 := r32 h1
  have k2 := r32 h2
  clear h1 h2
  go_enter Try.func53, Try.ntmps53
  go_wp2
  go_ret
  exact ⟨rfl, rfl⟩
theorem dist_w {p q : Nat × Nat} (hp : PlOk p) (hq : PlOk q) : ∃ t, DistW p q t := by
  obtain ⟨x1, x2, x3, x4⟩ := hp
  obtain ⟨y1, y2, y3, y4⟩ := hq
  have t0 : (2048 : Rat) ≤ top := by decide +kernel
  unfold InR at x3 x4 y3 y4
  obtain ⟨u, u1, u2⟩ := fsub x1 y1 (by grind) (by grind)
  obtain ⟨v, v1, v2⟩ := fsub x2 y2 (by grind) (by grind)
  have e11 : p2 11 = 2048 := by decide +kernel
  have bu := u2.within 11 (by decide) (by decide) (by rw [e11]; grind) (by rw [e11]; grind)
  have bv := v2.within 11 (by decide) (by decide) (by rw [e11]; grind) (by rw [e11]; grind)
  rw [e11] at bu bv
  have m0 : (2048 : Rat) ≤ mid := by decide +kernel
  have e32 : (2 : Nat) ^ FloatKind.f32.format.width = 4294967296 := by decide +kernel
  have lu := u2.lt
  have lv := v2.lt
  rw [e32] at lu lv
  obtain ⟨r, hr⟩ := long_w u2.fin v2.fin lu lv ⟨by grind, by grind⟩ ⟨by grind, by grind⟩
  exact ⟨(u, v, r), u1, v1, u2, v2, fun w => sub_w u1 v1 w, hr⟩
open Classical in
noncomputable def dstT (p q : Nat × Nat) : Nat × Nat × Nat := if h : ∃ t, DistW p q t then Classical.choose h else (0, 0, 0)
noncomputable def dst (p q : Nat × Nat) : Nat := (dstT p q).2.2
theorem dstT_spec {p q : Nat × Nat} (hp : PlOk p) (hq : PlOk q) : DistW p q (dstT p q) := by
  have h := dist_w hp hq
  unfold dstT
  rw [dif_pos h]
  exact Classical.choose_spec h
theorem dst_lt {p q : Nat × Nat} (hp : PlOk p) (hq : PlOk q) : dst p q < 2139095040 := (dstT_spec hp hq).lw.lt
/-- The first of the least of n numbers, and it. -/
def bestI (D : Nat → Nat) : Nat → Nat × Nat
  | 0 => (0, D 0)
  | n + 1 => if D n < (bestI D n).2 then (n, D n) else bestI D n
theorem bestI_ok (D : Nat → Nat) : ∀ n, (bestI D n).2 = D (bestI D n).1 ∧ ((bestI D n).1 = 0 ∨ (bestI D n).1 < n) ∧ (∀ j < n, (bestI D n).2 ≤ D j) ∧ (bestI D n).2 ≤ D 0
  | 0 => ⟨rfl, .inl rfl, fun j h => by omega, Nat.le_refl _⟩
  | n + 1 => by
    obtain ⟨h1, h2, h3, h4⟩ := bestI_ok D n
    unfold bestI
    split
    · rename_i c
      refine ⟨rfl, .inr (Nat.lt_succ_self _), fun j hj => ?_, by show D n ≤ _; omega⟩
      show D n ≤ D j
      by_cases e : j = n
      · rw [e]; exact Nat.le_refl _
      · have := h3 j (by omega); omega
    · rename_i c
      refine ⟨h1, by omega, fun j hj => ?_, h4⟩
      by_cases e : j = n
      · rw [e]; omega
      · exact h3 j (by omega)
theorem cxv_at {P : List (Nat × Nat)} {n k : Nat} (h : P.length = n) (hk : k < n) : (P.map cxv)[k]? = some (.complex .f32 (P.getD k (0, 0)).1 (P.getD k (0, 0)).2) := by
  have hkl : k < P.length := by omega
  rw [List.getElem?_map, List.getElem?_eq_getElem hkl, List.getD_eq_getElem?_getD, List.getElem?_eq_getElem hkl]; rfl
theorem pl_mem {P : List (Nat × Nat)} {n k : Nat} (h : P.length = n) (hk : k < n) : P.getD k (0, 0) ∈ P := by
  have hkl : k < P.length := by omega
  rw [List.getD_eq_getElem?_getD, List.getElem?_eq_getElem hkl]
  exact List.getElem_mem hkl
noncomputable def nearT (P : List (Nat × Nat)) (z : Nat × Nat) : Nat × Nat := bestI (fun j => dst z (P.getD j (0, 0))) P.length
set_option maxRecDepth 100000 in
set_option maxHeartbeats 1000000 in
theorem nearest_w (P : List (Nat × Nat)) (z : Nat × Nat) (A : Option Addr) (n c : Nat) (w : World) (hl : P.length = n) (hn : 1 ≤ n) (hn2 : n ≤ 256) (hP : ∀ p ∈ P, PlOk p) (hz : PlOk z) (hA : Rd w w.heap.size 1 A n (P.map cxv)) :
    Calls Try.prog 77 #[.slice A n c, .complex .f32 z.1 z.2] w fun e w' => e = .returned (.tuple #[.int .i64 ((nearT P z).1 : Nat), .float .f32 (nearT P z).2]) ∧ w' = w := by
  obtain ⟨b, off, rfl, hbb, hc⟩ := hA.2 (by omega)
  have HC := Lib.hid hc
  have HL := Lib.hid hl
  have DS := Lib.hid (fun j (hj : j < n) => dstT_spec hz (hP _ (pl_mem hl hj)))
  have HR : Hid (nearT P z = bestI (fun j => dst z (P.getD j (0, 0))) n) := by unfold nearT; rw [hl]; exact Lib.hid rfl
  have c0 := hc 0 _ (cxv_at hl (by omega))
  have D0 := Lib.hid (DS.out 0 (by omega))
  have BST : Hid (bestI (fun j => dst z (P.getD j (0, 0))) 0 = (0, dst z (P.getD 0 (0, 0)))) := Lib.hid rfl
  obtain ⟨d0, ed0⟩ : ∃ d, dst z (P.getD 0 (0, 0)) = d := ⟨_, rfl⟩
  have S0 := Lib.hid D0.out.sb
  have L0 := Lib.hid D0.out.lw.im
  rw [show (dstT z (P.getD 0 (0, 0))).2.2 = d0 from ed0] at L0
  rw [ed0] at BST
  rw [Nat.add_zero] at c0
  clear hc hl hP hz hA D0 ed0
  generalize P.getD 0 (0, 0) = p0 at *
  generalize dstT z p0 = t0 at *
  obtain ⟨p01, p02⟩ := p0
  obtain ⟨t01, t02, t03⟩ := t0
  simp only at c0 S0 L0
  go_enter Try.func77, Try.ntmps77
  go_wp2_with (first
    | (go_at_call 53; refine (S0.out _).mono ?_; rintro e w5 ⟨rfl, hw5⟩; obtain rfl := hw5.symm)
    | (go_at_call 55; refine (L0.out _).mono ?_; rintro e w5 ⟨rfl, hw5⟩; obtain rfl := hw5.symm))
  clear c0 S0 L0
  go_loop [6, 7, 19] (fun sb sf si => ∃ (i q d : Nat), i ≤ n ∧ si = .int .i64 (i : Int) ∧ sb = .int .i64 (q : Int) ∧ sf = .float .f32 d ∧ Hid (bestI (fun j => dst z (P.getD j (0, 0))) i = (q, d)) ∧ Hid (q < 256) ∧ Hid (d < 2139095040)) (fun _ _ i => n - (intOf i).toNat)
  case atStart => exact ⟨0, 0, d0, Nat.zero_le _, rfl, rfl, rfl, BST, Lib.hid (by omega), by
    have e := BST.out
    have e2 : dst z (P.getD 0 (0, 0)) = d0 := congrArg Prod.snd e
    rw [← e2]
    exact Lib.hid (DS.out 0 (by omega)).lw.lt⟩
  case round =>
    obtain ⟨i, q, d, hi, rfl, rfl, rfl, HB, HQ, HD⟩ := hrel
    by_cases hlt : i < n
    · have ci := HC.out i _ (cxv_at HL.out hlt)
      have Di := DS.out i hlt
      have hdi : Hid (dst z (P.getD i (0, 0)) < 2139095040) := Lib.hid Di.lw.lt
      obtain ⟨x, ex⟩ : ∃ x, dst z (P.getD i (0, 0)) = x := ⟨_, rfl⟩
      have Si := Lib.hid Di.sb
      have Li := Lib.hid Di.lw.im
      rw [show (dstT z (P.getD i (0, 0))).2.2 = x from ex] at Li
      rw [ex] at hdi
      have OL := ord_lt hdi.out HD.out
      have HN : Hid (bestI (fun j => dst z (P.getD j (0, 0))) (i + 1) = if x < d then (i, x) else (q, d)) := by
        show Hid ((if dst z (P.getD i (0, 0)) < (bestI (fun j => dst z (P.getD j (0, 0))) i).2 then (i, dst z (P.getD i (0, 0))) else bestI (fun j => dst z (P.getD j (0, 0))) i) = _)
        rw [HB.out, ex]
        exact Lib.hid rfl
      have hiI : (i : Int) < (n : Int) := by omega
      clear Di ex
      generalize P.getD i (0, 0) = p0 at *
      generalize dstT z p0 = t0 at *
      obtain ⟨p01, p02⟩ := p0
      obtain ⟨t01, t02, t03⟩ := t0
      simp only at ci Si Li
      by_cases hxd : x < d
      · rw [if_pos hxd] at HN
        rw [decide_eq_true hxd] at OL
        go_wp2_with (first
          | (go_at_call 53; refine (Si.out _).mono ?_; rintro e w5 ⟨rfl, hw5⟩; obtain rfl := hw5.symm)
          | (go_at_call 55; refine (Li.out _).mono ?_; rintro e w5 ⟨rfl, hw5⟩; obtain rfl := hw5.symm))
        go_round
        case rel => exact ⟨i + 1, i, x, by omega, by go_num, rfl, rfl, HN, Lib.hid (by omega), hdi⟩
        case measure => simp [intOf]; omega
      · rw [if_neg hxd] at HN
        rw [decide_eq_false hxd] at OL
        go_wp2_with (first
          | (go_at_call 53; refine (Si.out _).mono ?_; rintro e w5 ⟨rfl, hw5⟩; obtain rfl := hw5.symm)
          | (go_at_call 55; refine (Li.out _).mono ?_; rintro e w5 ⟨rfl, hw5⟩; obtain rfl := hw5.symm))
        go_round
        case rel => exact ⟨i + 1, q, d, by omega, by go_num, rfl, rfl, HN, HQ, HD⟩
        case measure => simp [intOf]; omega
    · obtain rfl : i = n := by omega
      go_wp2
      go_ret2
      rw [HR.out, HB.out]
      exact ⟨rfl, rfl⟩
end Go.Proofs.Ytbpgbplepebcjaa

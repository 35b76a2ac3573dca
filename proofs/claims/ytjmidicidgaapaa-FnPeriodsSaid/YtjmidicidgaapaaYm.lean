/- Facts for the law on periods. Conditions: numbers of eighths. -/
import Derived.Test.YtjmidicidgaapaaYf
import Derived.Test.YtjmidicidgaapaaYh
import Derived.Test.YtjmidicidgaapaaYi
import Derived.Test.YtjmidicidgaapaaYk
import Derived.Test.YtjmidicidgaapaaYl
import Derived.Test.YtjmidicidgaapaaYs
import Derived.Test.YtjmidicidgaapaaEl
namespace Go.Proofs.Ytjmidicidgaapaa
open Go.RowKit
open Num Quick Circ
attribute [local go_sem] run_store_fl run_store_cx

theorem ewP_in {x : Int} (hx : x.natAbs ≤ 16) : Fl .f32 (ew x) ∧ InR (Num.fv .f32 (ew x)) 2 ∧ ew x < 4294967296 := by
  have g := (ew_ok hx).2
  refine ⟨g.fin, ?_, g.lt⟩
  rw [g.val]
  have hp : ((2 ^ 3 : Nat) : Rat) = 8 := rfl
  rw [hp]
  have a : (-16 : Rat) ≤ (x : Rat) := by
    have : (((-16 : Int)) : Rat) ≤ (x : Rat) := Rat.intCast_le_intCast.2 (by omega)
    exact this
  have b : (x : Rat) ≤ (16 : Rat) := by
    have : (x : Rat) ≤ (((16 : Int)) : Rat) := Rat.intCast_le_intCast.2 (by omega)
    exact this
  unfold InR
  constructor <;> grind
theorem ewP_cb {x y : Int} (hx : x.natAbs ≤ 16) (hy : y.natAbs ≤ 16) : Cb ((2 : Nat) : Rat) (ew x, ew y) ∧ W32 (ew x, ew y) ∧ Num.fv .f32 (ew x) * Num.fv .f32 (ew x) + Num.fv .f32 (ew y) * Num.fv .f32 (ew y) ≤ 81 / 10 := by
  obtain ⟨a1, a2, a3⟩ := ewP_in hx
  obtain ⟨b1, b2, b3⟩ := ewP_in hy
  have m1 := prod_in a2 a2 (by decide)
  have m2 := prod_in b2 b2 (by decide)
  refine ⟨⟨a1, b1, a2, b2⟩, ⟨a3, b3⟩, ?_⟩
  unfold InR at m1 m2
  grind
theorem cbP {B C : Nat} {z : Nat × Nat} (h : Cb (B : Rat) z) (hBC : B ≤ C) : Cb (C : Rat) z := h.mono (Rat.natCast_le_natCast.2 hBC)
/-- How the law looks at the orbit: within the count nothing is out; at the count it is out, but where the count ends. -/
theorem cntP_ok (k m : Nat) {c z : Nat × Nat} (hk : k ≤ 3) (hc : Cb ((2 : Nat) : Rat) c) (hz : Cb ((110 : Nat) : Rat) z) (hw : W32 z) : cnt k c z m ≤ m ∧ (∀ i, i < cnt k c z m → out (orb k c z i) = false) ∧ (cnt k c z m < m → out (orb k c z (cnt k c z m)) = true) ∧ ∀ i, i ≤ cnt k c z m → Cb ((110 : Nat) : Rat) (orb k c z i) ∧ W32 (orb k c z i) := by
  obtain ⟨q1, q2, q3, q4⟩ := esc_ok (fun i => out (orb k c z i)) m 0
  have OB := orb_ok hk hc hz hw (fun i h => q3 i (Nat.zero_le _) h) 
  unfold cnt
  exact ⟨by omega, fun i h => q3 i (Nat.zero_le _) h, fun h => q4 (by omega), fun i h => OB i h⟩
theorem zero_fb : Fb (0, 0) := ⟨c0.1, c0.1, by rw [c0.2]; unfold InR; constructor <;> decide, by rw [c0.2]; unfold InR; constructor <;> decide⟩
open Classical in
theorem zero_sm : smB (0, 0) = true := by
  have i : InR (Num.fv .f32 0) 1000 := by rw [c0.2]; unfold InR; constructor <;> decide
  unfold smB
  simp only [decide_eq_true i, Bool.and_self]
theorem zero_w : W32 (0, 0) := ⟨by decide, by decide⟩
theorem near_lit : Fl .f32 1031798784 ∧ (FloatKind.f32.format.order 1031798784 0 == some .gt || FloatKind.f32.format.order 1031798784 0 == some .eq) = true := ⟨word_fin (by decide), by decide +kernel⟩
theorem le_not_gt {a b : Nat} (h : (FloatKind.f32.format.order a b == some .lt || FloatKind.f32.format.order a b == some .eq) = true) : (FloatKind.f32.format.order a b == some .gt) = false := by
  cases e : FloatKind.f32.format.order a b with
  | none => rfl
  | some o => rw [e] at h; cases o <;> first | rfl | cases h
/-- What the law asks of a period. -/
theorem per_law {k p : Nat} {c : Nat × Nat} (hk : k ≤ 3) (hc : Cb ((2 : Nat) : Rat) c) (h : Per (orbB k c (0, 0)) 1031798784 p) : ∃ f : Nat → Nat × Nat,
    (∀ w : World, Calls Try.prog 8 #[.agg #[.int .i64 (k : Int), .complex .f32 c.1 c.2], .complex .f32 0 0, .int .i64 ((5 + p : Nat) : Int)] w fun e w' => ∃ g c', e = .returned (.tuple #[.slice (some ⟨g, 0, none⟩) (5 + p) c', .bool true]) ∧ w'.ownsRow w.heap.size 25 1 (.slice (some ⟨g, 0, none⟩) (5 + p) c') (5 + p) ((List.range (5 + p)).map (fun i => cxv (f i))) ∧ Below w.heap.size w w') ∧
    ∀ q, 1 ≤ q → q ≤ p → ∃ u v d, (∀ w : World, (binOp .sub 25 (.complex .f32 (f (4 + q)).1 (f (4 + q)).2) (.complex .f32 (f 4).1 (f 4).2)).run Try.prog w = .ok (.complex .f32 u v) w) ∧ (∀ w : World, Calls Try.prog 9 #[.complex .f32 u v] w fun e w' => e = .returned (.float .f32 d) ∧ w' = w) ∧
      (q = p → (FloatKind.f32.format.order d 1031798784 == some .gt) = false) ∧ (q < p → (FloatKind.f32.format.order d 1031798784 == some .lt || FloatKind.f32.format.order d 1031798784 == some .eq) = false) := by
  have OK := fun i (hi : i ≤ 4 + p) => orbB_ok hk hc zero_fb zero_w i (fun j hj => h.small j (by omega))
  have p12 := h.hi
  refine ⟨orbB k c (0, 0), fun w => ?_, fun q h1 h2 => ?_⟩
  · refine orbit_gen k (5 + p) c (0, 0) (orbB k c (0, 0)) w hk hc (by omega) (by omega) rfl (fun w => ?_) (fun i hi w => orbB_step hk hc zero_fb zero_w i (fun j hj => h.small j (by omega)) w) (fun i hi w => ?_) (fun w => ?_)
    · have := isSmall_any (OK 0 (by omega)).1.f1 (OK 0 (by omega)).1.f2 w
      rwa [h.small 0 (by omega)] at this
    · have := isSmall_any (OK i (by omega)).1.f1 (OK i (by omega)).1.f2 w
      rwa [h.small i (by omega)] at this
    · exact finiteC_num (OK (5 + p - 1) (by omega)).1.f1 (OK (5 + p - 1) (by omega)).1.f2 w
  · obtain ⟨u, v, u1, v1, l1, _⟩ := dB_ok (OK (4 + q) (by omega)).1 (OK 4 (by omega)).1
    exact ⟨u, v, _, rCSub u1 v1, l1, fun e => by rw [e]; exact le_not_gt h.at_, fun hlt => h.before q h1 hlt⟩
theorem small_table : ((List.range 33).all fun x => small1 (ew ((x : Int) - 16))) = true := by decide +kernel
theorem ew_small {x : Int} (hx : x.natAbs ≤ 16) : small1 (ew x) = true := by
  have := List.all_eq_true.1 small_table (x + 16).toNat (List.mem_range.2 (by omega))
  rwa [show (((x + 16).toNat : Nat) : Int) - 16 = x by omega] at this
/-- The length's word, of small parts: finite. -/
theorem longC_fin {x y r : Nat} (h : longC x y = some r) (hx : Fl .f32 x) (hy : Fl .f32 y) (ix : InR (Num.fv .f32 x) mid) (iy : InR (Num.fv .f32 y) mid) : Fl .f32 r := by
  obtain ⟨x', y', p, q, u, s, r', h1, h2, h3, h4, h5, h6, h7, h8⟩ := flong hx hy ix iy
  unfold longC wide narrow at h
  obtain ⟨a, e1, h⟩ := af_some h
  obtain rfl : a = x' := Option.some.inj (e1.symm.trans h1)
  obtain ⟨b, e2, h⟩ := af_some h
  obtain rfl : b = y' := Option.some.inj (e2.symm.trans h2)
  obtain ⟨c, e3, h⟩ := opf_some h
  obtain rfl : c = p := Option.some.inj (e3.symm.trans h3)
  obtain ⟨d, e4, h⟩ := opf_some h
  obtain rfl : d = q := Option.some.inj (e4.symm.trans h4)
  obtain ⟨e, e5, h⟩ := opf_some h
  obtain rfl : e = u := Option.some.inj (e5.symm.trans h5)
  obtain ⟨f, e6, h⟩ := af_some h
  rw [qsqrt_eq] at e6
  obtain rfl : f = s := Option.some.inj (e6.symm.trans h6)
  obtain ⟨g, e7, h⟩ := af_some h
  obtain rfl : g = r' := Option.some.inj (e7.symm.trans h7)
  obtain rfl : g = r := by simpa using h
  exact h8.fin
/-- What the law asks of a root that was found. -/
theorem found_law {n m k s : Nat} {z : Nat × Nat} (hn : 2 ≤ n) (hn6 : n ≤ 6) (h : Found n m z k s) : ∃ f : Nat → Nat × Nat, f 0 = z ∧
    (∀ i, i < s → ∀ w : World, Calls Try.prog 11 #[.int .i64 (n : Int), .complex .f32 (f i).1 (f i).2] w fun e w' => e = .returned (.tuple #[.complex .f32 (f (i + 1)).1 (f (i + 1)).2, .bool true]) ∧ ∃ k, w' = w.drewN k) ∧
    ∃ t u v l y a b, floatBits .quo .f64 (fi (k : Int)) (fi (n : Int)) = some t ∧ (∀ w : World, Calls Try.prog 12 #[.float .f64 t] w fun e w' => e = .returned (.complex .f32 a b) ∧ w' = w) ∧
      (∀ w : World, (binOp .sub 25 (.complex .f32 (f s).1 (f s).2) (.complex .f32 a b)).run Try.prog w = .ok (.complex .f32 u v) w) ∧ (∀ w : World, Calls Try.prog 9 #[.complex .f32 u v] w fun e w' => e = .returned (.float .f32 l) ∧ w' = w) ∧ qwide l = some y ∧ (FloatKind.f64.format.order y 4564560351926583034 == some .gt) = false := by
  have small_fin : ∀ w : Nat × Nat, smallC w.1 w.2 = true → Fl .f32 w.1 ∧ Fl .f32 w.2 := fun w hw => by
    unfold smallC at hw
    obtain ⟨ha, hb⟩ := Bool.and_eq_true_iff.1 hw
    exact ⟨(small1_ok ha).1, (small1_ok hb).1⟩
  refine ⟨zs n z.1 z.2, rfl, fun i hi w => ?_, ?_⟩
  · obtain ⟨h1, h2⟩ := h.word.steps i hi
    have hf : Fl .f32 (zs n z.1 z.2 (i + 1)).1 ∧ Fl .f32 (zs n z.1 z.2 (i + 1)).2 := by
      rcases Nat.lt_or_ge (i + 1) s with h3 | h3
      · exact small_fin _ (h.word.steps (i + 1) h3).1
      · rw [show i + 1 = s by omega]
        exact small_fin _ h.small
    exact RootStep_ok hn hn6 h1 h2 hf.1 hf.2 w
  · obtain ⟨t, t1, t2⟩ := phasor_ph hn hn6 h.lt
    obtain ⟨u, v, l, u1, v1, l1, l2⟩ := nearK_nigh h.near
    have hs := h.small
    unfold smallC at hs
    obtain ⟨ha, hb⟩ := Bool.and_eq_true_iff.1 hs
    obtain ⟨fa, ia, _⟩ := small1_ok ha
    obtain ⟨fb, ib, _⟩ := small1_ok hb
    obtain ⟨⟨fp, ip⟩, ⟨fq, iq⟩⟩ := ph_ok hn6 h.lt
    have tb : (2000 : Rat) ≤ top := by decide +kernel
    have tm : (1001 : Rat) ≤ mid := by decide +kernel
    obtain ⟨T, eT⟩ : ∃ T : Rat, top = T := ⟨_, rfl⟩
    rw [eT] at tb
    obtain ⟨u', u2, u3⟩ := fsub fa fp (by rw [eT]; unfold InR at *; grind) (by rw [eT]; unfold InR at *; grind)
    obtain ⟨v', v2, v3⟩ := fsub fb fq (by rw [eT]; unfold InR at *; grind) (by rw [eT]; unfold InR at *; grind)
    obtain rfl : u' = u := Option.some.inj (u2.symm.trans u1)
    obtain rfl : v' = v := Option.some.inj (v2.symm.trans v1)
    have e1 : ((1001 : Int) : Rat) = 1001 := rfl
    have e2 : ((-1001 : Int) : Rat) = -1001 := rfl
    have iu : InR (Num.fv .f32 u') mid := by
      have h1 := u3.le_int 1001 (by decide) (by rw [e1]; unfold InR at *; grind)
      have h2 := u3.ge_int (-1001) (by decide) (by rw [e2]; unfold InR at *; grind)
      rw [e1] at h1
      rw [e2] at h2
      generalize mid = M at tm
      unfold InR; constructor <;> grind
    have iv : InR (Num.fv .f32 v') mid := by
      have h1 := v3.le_int 1001 (by decide) (by rw [e1]; unfold InR at *; grind)
      have h2 := v3.ge_int (-1001) (by decide) (by rw [e2]; unfold InR at *; grind)
      rw [e1] at h1
      rw [e2] at h2
      generalize mid = M at tm
      unfold InR; constructor <;> grind
    have fl := longC_fin l1 u3.fin v3.fin iu iv
    obtain ⟨y, y1, y2, _, y4⟩ := fwide fl
    have hle : Num.fv .f32 l ≤ Num.fv .f32 981668463 := by
      apply Rat.not_lt.1
      intro hlt
      have := not_le_cmp fl c001.1 hlt
      have h3 : leM l = false := this
      rw [h3] at l2
      cases l2
    have d15 : Fl .f64 4564560351926583034 := by
      show (4564560351926583034 : Nat) % FloatKind.f64.format.signWeight < FloatKind.f64.format.infRung
      decide +kernel
    have v15 : Num.fv .f32 981668463 ≤ Num.fv .f64 4564560351926583034 := by
      unfold Num.fv val rv p2
      decide +kernel
    refine ⟨t, u', v', l, y, _, _, t1, t2, rCSub u1 v1, fun w => LongOf_calls w l1, y1, (le_cmp y2 d15 ?_).2⟩
    rw [y4]
    exact Rat.le_trans hle v15
def startOk : Bool := (List.range 7).all fun n => decide (n < 2) || (smallC (ph n 1).1 (ph n 1).2 && runC n 0 (ph n 1).1 (ph n 1).2 && (nearK n 0 (ph n 1).1 (ph n 1).2 == some false) && (nearK n 1 (ph n 1).1 (ph n 1).2 == some true))
theorem startOk_ok : startOk = true := by decide +kernel
theorem fi_one : fi 1 = 4607182418800017408 := by decide
/-- A root starts near itself. -/
theorem start_law {n : Nat} (hn : 2 ≤ n) (hn6 : n ≤ 6) : ∃ t a b, floatBits .quo .f64 4607182418800017408 (fi (n : Int)) = some t ∧ (∀ w : World, Calls Try.prog 12 #[.float .f64 t] w fun e w' => e = .returned (.complex .f32 a b) ∧ w' = w) ∧
    (∀ w : World, Calls Try.prog 10 #[.int .i64 (n : Int), .complex .f32 a b, .int .i64 0] w fun e w' => e = .returned (.tuple #[.int .i64 1, .int .i64 0, .bool true]) ∧ ∃ d, w' = w.drewN d) := by
  obtain ⟨t, t1, t2⟩ := phasor_ph hn hn6 (show 1 < n by omega)
  have e1 : fi ((1 : Nat) : Int) = 4607182418800017408 := fi_one
  rw [e1] at t1
  have h := List.all_eq_true.1 (show ((List.range 7).all fun n => decide (n < 2) || (smallC (ph n 1).1 (ph n 1).2 && runC n 0 (ph n 1).1 (ph n 1).2 && (nearK n 0 (ph n 1).1 (ph n 1).2 == some false) && (nearK n 1 (ph n 1).1 (ph n 1).2 == some true))) = true from startOk_ok) n (List.mem_range.2 (by omega))
  rw [decide_eq_false (by omega : ¬ n < 2), Bool.false_or] at h
  simp only [Bool.and_eq_true, beq_iff_eq] at h
  obtain ⟨⟨⟨h1, h2⟩, h3⟩, h4⟩ := h
  refine ⟨t, (ph n 1).1, (ph n 1).2, t1, t2, fun w => ?_⟩
  refine (RootOf_ok n 0 (ph n 1) hn hn6 (by omega) h1 h2 w).mono ?_
  rintro e w' ⟨k, s, ok, rfl, hd, g1, g2⟩
  cases ok with
  | false => exact absurd h4 (g2 rfl 1 (by omega))
  | true =>
    have F := g1 rfl
    obtain rfl : s = 0 := by have := F.le; omega
    have hz : zs n (ph n 1).1 (ph n 1).2 0 = ((ph n 1).1, (ph n 1).2) := rfl
    have hk1 : k = 1 := by
      have near := F.near
      have first := F.first
      rw [hz] at near first
      rcases (by omega : k = 0 ∨ k = 1 ∨ 2 ≤ k) with rfl | rfl | h5
      · rw [h3] at near; cases near
      · rfl
      · exact absurd h4 (first 1 (by omega))
    subst hk1
    exact ⟨rfl, hd⟩
/-- Where NearEscape ends. -/
theorem near_at {o : Nat → Bool} {e j : Nat} (he : e ≤ 12) (h1 : ∀ i, i < e → o i = false) (h2 : e < 12 → o e = true) (hj : j ≤ min (e + 1) 12) (h3 : ∀ i, i < j → o i = false) (h4 : j < min (e + 1) 12 → o j = true) : j = e := by
  rcases Nat.lt_trichotomy j e with h | h | h
  · have a := h1 j h
    have b := h4 (by omega)
    rw [a] at b
    cases b
  · exact h
  · have a := h3 e h
    have b := h2 (by omega)
    rw [a] at b
    cases b
theorem min_run (a b : Int) (ts : Array TypeId) (t : TypeId) (w : World) : (Builtin.min_ ts t #[.int .i64 a, .int .i64 b]).run Try.prog w = .ok (.int .i64 (if b < a then b else a)) w := rfl
/-- Distances. -/
theorem bord_law {x y : Int} (hx : x.natAbs ≤ 16) (hy : y.natAbs ≤ 16) : ∃ (r : Nat) (hb : Bool), (∀ w : World, Calls Try.prog 16 #[.complex .f32 (ew x) (ew y), .int .i64 40] w fun e w' => e = .returned (.tuple #[.float .f32 r, .bool true]) ∧ w' = w) ∧
    (∀ w : World, Calls Try.prog 17 #[.complex .f32 (ew x) (ew y)] w fun e w' => e = .returned (.bool hb) ∧ w' = w) ∧ (FloatKind.f32.format.order r 0 == some .gt || FloatKind.f32.format.order r 0 == some .eq) = true ∧ (hb = true → (FloatKind.f32.format.order r 0 == some .eq) = true) := by
  have h := bord_all hx hy
  have hc := (ewP_cb hx hy).1
  unfold bordOk at h
  cases e1 : bordL (ew x) (ew y) 40 0 0 0 0 with
  | none => rw [e1] at h; cases h
  | some abuv =>
    obtain ⟨a, b, u, v⟩ := abuv
    rw [e1] at h
    simp only at h
    cases e2 : bordF a b u v with
    | none => rw [e2] at h; cases h
    | some r =>
      cases e3 : heartD (ew x) (ew y) with
      | none => rw [e2, e3] at h; cases h
      | some hb =>
        rw [e2, e3] at h
        simp only [Bool.or_eq_true, Bool.not_eq_true', decide_eq_true_eq] at h
        obtain ⟨_, _, _, hr, _⟩ := bord_end e2
        have fr : Fl .f32 r := word_fin (by omega)
        have hr0 : 0 ≤ Num.fv .f32 r := by
          have hs : FloatKind.f32.format.signWeight = 2147483648 := by decide
          show 0 ≤ val FloatKind.f32.format r
          unfold val
          rw [hs, if_neg (by omega)]
          exact rv_nonneg _ _
        refine ⟨r, hb, fun w => (BorderOf_ok hc e1 e2 w).mono (fun e w' hh => ⟨hh.1, hh.2.1⟩), fun w => InHeartD e3 hc w, ?_, fun ht => ?_⟩
        · obtain ⟨o, o1, o2, _, _⟩ := order_fin FloatKind.f32.format fr c0.1
          rw [o1]
          cases o with
          | gt => decide
          | eq => decide
          | lt =>
            have h1 : val FloatKind.f32.format r < 0 := by rw [← c0.2]; exact o2.1 rfl
            exact absurd h1 (Rat.not_lt.2 hr0)
        · have h0 : r = 0 := by
            rcases h with h | h
            · rw [h] at ht; cases ht
            · exact h
          rw [h0]
          decide +kernel
end Go.Proofs.Ytjmidicidgaapaa

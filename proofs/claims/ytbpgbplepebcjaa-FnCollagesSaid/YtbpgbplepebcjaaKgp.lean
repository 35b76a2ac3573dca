/- Plain law: when points are apart, and how near a fit lies. Conditions: points as the reference draws them. Walks: the reference's sameness of numbers. Conditions: finite numbers. -/
import Derived.Test.YtbpgbplepebcjaaKgl
import Derived.Test.YtbpgbplepebcjaaKge
namespace Go.Proofs.Ytbpgbplepebcjaa
open Go.RowKit
open Num Quick

abbrev tenth64 : Nat := 4591870180066957722
abbrev cent64 : Nat := 4576918229304087675
theorem tenth_num : Fl .f64 tenth64 ∧ 0 ≤ Num.fv .f64 tenth64 ∧ Num.fv .f64 tenth64 ≤ 1 / 5 := by
  refine ⟨?_, ?_, ?_⟩
  · show tenth64 % FloatKind.f64.format.signWeight < FloatKind.f64.format.infRung
    decide +kernel
  · unfold Num.fv val rv p2
    decide +kernel
  · unfold Num.fv val rv p2
    decide +kernel
theorem cent_num : Fl .f64 cent64 ∧ 1 / 128 ≤ Num.fv .f64 cent64 := by
  refine ⟨?_, ?_⟩
  · show cent64 % FloatKind.f64.format.signWeight < FloatKind.f64.format.infRung
    decide +kernel
  · unfold Num.fv val rv p2
    decide +kernel
theorem mille_num : Fl .f32 981668463 ∧ 1 / 1024 ≤ Num.fv .f32 981668463 := by
  refine ⟨?_, ?_⟩
  · show (981668463 : Nat) % FloatKind.f32.format.signWeight < FloatKind.f32.format.infRung
    decide +kernel
  · unfold Num.fv val rv p2
    decide +kernel
/-- Whether the point i lies apart from the first one. -/
def apB (P : List (Nat × Nat)) (i : Nat) : Bool := !(decide (fst_ P i = fst_ P 0) && decide (snd_ P i = snd_ P 0))
def spB (P : List (Nat × Nat)) : Nat → Bool
  | 0 => false
  | k + 1 => spB P k || apB P k
theorem spB_yes {P : List (Nat × Nat)} : ∀ {n : Nat}, spB P n = true → ∃ i < n, apB P i = true
  | 0, h => by cases h
  | n + 1, h => by
    unfold spB at h
    rw [Bool.or_eq_true] at h
    rcases h with h | h
    · obtain ⟨i, hi, e⟩ := spB_yes h
      exact ⟨i, by omega, e⟩
    · exact ⟨n, by omega, h⟩
theorem spB_no {P : List (Nat × Nat)} : ∀ {n : Nat}, spB P n = false → ∀ i < n, apB P i = false
  | 0, _, i, hi => by omega
  | n + 1, h, i, hi => by
    unfold spB at h
    rw [Bool.or_eq_false_iff] at h
    by_cases e : i = n
    · rw [e]; exact h.2
    · exact spB_no h.1 i (by omega)
theorem quarter {x : Rat} {B : Int} (h : Gr 2 B x) (h0 : x ≠ 0) : 1 / 16 ≤ x * x := by
  obtain ⟨m, e, _, _⟩ := h
  have e4 : ((2 ^ 2 : Nat) : Rat) = 4 := by decide +kernel
  rw [e4] at e
  have hm : m ≠ 0 := by
    intro c
    rw [c] at e
    exact h0 (by rw [e, Rat.intCast_zero]; grind)
  have h1 : ((1 : Int) : Rat) ≤ ((m * m : Int) : Rat) := Rat.intCast_le_intCast.2 (by
    rcases Int.lt_or_gt_of_ne hm with c | c
    · have := Int.mul_pos_of_neg_of_neg c c; omega
    · have := Int.mul_pos c c; omega)
  rw [Rat.intCast_mul] at h1
  have e1 : ((1 : Int) : Rat) = 1 := rfl
  rw [e1] at h1
  rw [e]
  grind
theorem apart_num {p q : Nat × Nat} (hp : PtOk p) (hq : PtOk q) : ∃ lw, qwide (dst p q) = some lw ∧ (FloatKind.f64.format.order lw tenth64 == some .gt) = (!(decide (Num.fv .f32 p.1 = Num.fv .f32 q.1) && decide (Num.fv .f32 p.2 = Num.fv .f32 q.2))) ∧
    (¬ (Num.fv .f32 p.1 = Num.fv .f32 q.1 ∧ Num.fv .f32 p.2 = Num.fv .f32 q.2) → 1 / 16 ≤ (Num.fv .f32 p.1 - Num.fv .f32 q.1) * (Num.fv .f32 p.1 - Num.fv .f32 q.1) + (Num.fv .f32 p.2 - Num.fv .f32 q.2) * (Num.fv .f32 p.2 - Num.fv .f32 q.2)) := by
  have D := dstT_spec (pt_pl hp) (pt_pl hq)
  have g1 := hp.1.gr.sub hq.1.gr
  have g2 := hp.2.gr.sub hq.2.gr
  have x1 := (FR.gf D.f1 g1 (by decide) (by decide)).2
  have x2 := (FR.gf D.f2 g2 (by decide) (by decide)).2
  have r := D.lw.root
  rw [x1, x2] at r
  have hl := plus_val D.lw.lt
  obtain ⟨lw, l1, l2, l3, l4⟩ := fwide hl.1
  have far : ¬ (Num.fv .f32 p.1 = Num.fv .f32 q.1 ∧ Num.fv .f32 p.2 = Num.fv .f32 q.2) → 1 / 16 ≤ (Num.fv .f32 p.1 - Num.fv .f32 q.1) * (Num.fv .f32 p.1 - Num.fv .f32 q.1) + (Num.fv .f32 p.2 - Num.fv .f32 q.2) * (Num.fv .f32 p.2 - Num.fv .f32 q.2) := by
    intro h
    have a := rsq_nn (Num.fv .f32 p.1 - Num.fv .f32 q.1)
    have b := rsq_nn (Num.fv .f32 p.2 - Num.fv .f32 q.2)
    by_cases c : Num.fv .f32 p.1 - Num.fv .f32 q.1 = 0
    · by_cases c2 : Num.fv .f32 p.2 - Num.fv .f32 q.2 = 0
      · exact absurd ⟨by grind, by grind⟩ h
      · have := quarter g2 c2; grind
    · have := quarter g1 c; grind
  refine ⟨lw, l1, ?_, far⟩
  by_cases h : Num.fv .f32 p.1 = Num.fv .f32 q.1 ∧ Num.fv .f32 p.2 = Num.fv .f32 q.2
  · rw [decide_eq_true h.1, decide_eq_true h.2]
    have rep0 : Rep FloatKind.f32.format 0 := by
      have := rep_nat .f32 0 (by decide)
      rwa [Rat.intCast_zero] at this
    have e1 : Num.fv .f32 p.1 - Num.fv .f32 q.1 = 0 := by rw [h.1]; grind
    have e2 : Num.fv .f32 p.2 - Num.fv .f32 q.2 = 0 := by rw [h.2]; grind
    rw [e1, e2] at r
    have h0 : Num.fv .f32 (dstT p q).2.2 ≤ 0 := r.le _ rep0 (by decide +kernel) (by grind)
    have := tenth_num.2.1
    exact (le_cmp l2 tenth_num.1 (by rw [l4]; grind)).2
  · have h2 : (!(decide (Num.fv .f32 p.1 = Num.fv .f32 q.1) && decide (Num.fv .f32 p.2 = Num.fv .f32 q.2))) = true := by
      rw [Bool.not_eq_true', Bool.and_eq_false_iff]
      by_cases c : Num.fv .f32 p.1 = Num.fv .f32 q.1
      · exact .inr (decide_eq_false fun c2 => h ⟨c, c2⟩)
      · exact .inl (decide_eq_false c)
    rw [h2]
    have rq := rep_frac .f32 1 2 (by decide) (by decide)
    have eq : ((1 : Int) : Rat) / ((2 ^ 2 : Nat) : Rat) = 1 / 4 := by decide +kernel
    rw [eq] at rq
    have h3 : 1 / 4 ≤ Num.fv .f32 (dstT p q).2.2 := r.ge _ rq (by decide +kernel) (by have := far h; grind)
    have := tenth_num.2.2
    rw [cmp_gt' l2 tenth_num.1 (by rw [l4]; grind)]
    rfl
theorem spread_or {x : Sm} {P : List (Nat × Nat)} {n : Nat} (hl : P.length = n) (hn : 1 ≤ n) (hn2 : n ≤ 7) (hP : ∀ p ∈ P, PtOk p) :
    (spB P n = true → 1 / 32 ≤ sprR (fst_ (P.map (cjP x.fl))) (snd_ (P.map (cjP x.fl))) n n ∧ ¬ Flat (P.map (cjP x.fl)) n) ∧ (spB P n = false → Flat (P.map (cjP x.fl)) n) := by
  have hp := pts_of (x := x) hl hn hn2 hP
  have u1 : ∀ i < n, fst_ (P.map (cjP x.fl)) i = fst_ P i := fun i hi => by unfold fst_; rw [getD_map _ hl hi]; rfl
  have u2 : ∀ i < n, snd_ (P.map (cjP x.fl)) i = if x.fl then -snd_ P i else snd_ P i := fun i hi => by
    unfold snd_; rw [getD_map _ hl hi]
    exact ((hP _ (pl_mem hl hi)).2.flip x.fl).2
  constructor
  · intro h
    obtain ⟨i, hi, ha⟩ := spB_yes h
    have hne : ¬ (fst_ P i = fst_ P 0 ∧ snd_ P i = snd_ P 0) := by
      intro c
      unfold apB at ha
      rw [decide_eq_true c.1, decide_eq_true c.2] at ha
      cases ha
    obtain ⟨_, _, _, far⟩ := apart_num (hP _ (pl_mem hl hi)) (hP _ (pl_mem hl (show 0 < n by omega)))
    have far := far hne
    constructor
    · refine hp.apart hi ?_
      rw [u1 i hi, u1 0 (by omega), u2 i hi, u2 0 (by omega)]
      have far' : 1 / 16 ≤ (fst_ P i - fst_ P 0) * (fst_ P i - fst_ P 0) + (snd_ P i - snd_ P 0) * (snd_ P i - snd_ P 0) := far
      split
      · grind
      · exact far'
    · intro hf
      obtain ⟨a, b⟩ := hf i hi
      rw [u1 i hi, u1 0 (by omega)] at a
      rw [u2 i hi, u2 0 (by omega)] at b
      refine hne ⟨a, ?_⟩
      split at b
      · grind
      · exact b
  · intro h i hi
    have ha := spB_no h i hi
    unfold apB at ha
    rw [Bool.not_eq_false', Bool.and_eq_true, decide_eq_true_eq, decide_eq_true_eq] at ha
    rw [u1 i hi, u1 0 (by omega), u2 i hi, u2 0 (by omega), ha.1, ha.2]
    exact ⟨rfl, rfl⟩
/-- A small difference: its length is less than a hundredth. -/
theorem cent_lt {a b c d : Nat} (ha : Fl .f32 a) (hb : Fl .f32 b) (hc : Fl .f32 c) (hd : Fl .f32 d) (h1 : InR (Num.fv .f32 a - Num.fv .f32 c) (1 / 200)) (h2 : InR (Num.fv .f32 b - Num.fv .f32 d) (1 / 200)) :
    ∃ u v l lw, floatBits .sub .f32 a c = some u ∧ floatBits .sub .f32 b d = some v ∧ LongW u v l ∧ qwide l = some lw ∧ (FloatKind.f64.format.order lw cent64 == some .lt) = true := by
  have t1 : (1 : Rat) ≤ top := by decide +kernel
  unfold InR at h1 h2
  obtain ⟨u, u1, u2⟩ := fsub ha hc (by grind) (by grind)
  obtain ⟨v, v1, v2⟩ := fsub hb hd (by grind) (by grind)
  have nu := near1 u2 (by unfold InR; constructor <;> grind)
  have nv := near1 v2 (by unfold InR; constructor <;> grind)
  have m1 : (1 : Rat) ≤ mid := by decide +kernel
  have iu : InR (Num.fv .f32 u) (1 / 199) := by unfold InR at *; constructor <;> grind
  have iv : InR (Num.fv .f32 v) (1 / 199) := by unfold InR at *; constructor <;> grind
  have q : (1 : Rat) / 199 ≤ mid := by decide +kernel
  obtain ⟨l, LW⟩ := long_w u2.fin v2.fin (lt32 u2) (lt32 v2) (in_mono iu q) (in_mono iv q)
  have r := rep_frac .f32 15 11 (by decide) (by decide)
  have e : ((15 : Int) : Rat) / ((2 ^ 11 : Nat) : Rat) = 15 / 2048 := by decide +kernel
  rw [e] at r
  have x1 := abs_sq iu.1 iu.2
  have x2 := abs_sq iv.1 iv.2
  have c : (1 : Rat) / 199 * (1 / 199) + 1 / 199 * (1 / 199) ≤ 15 / 2048 * (15 / 2048) := by decide +kernel
  have hl : Num.fv .f32 l ≤ 15 / 2048 := LW.root.le _ r (by decide +kernel) (by grind)
  obtain ⟨lw, l1, l2, l3, l4⟩ := fwide (plus_val LW.lt).1
  refine ⟨u, v, l, lw, u1, v1, LW, l1, (lt_cmp l2 cent_num.1 ?_).1⟩
  have := cent_num.2
  rw [l4]
  grind
theorem miss_ok {l : Nat} (hl : l < 2139095040) (h : Num.fv .f32 l ≤ 63 / 65536) : (FloatKind.f32.format.order l 981668463 == some .lt) = true ∧ ∃ b1 b2, (FloatKind.f32.format.order l 0 == some .gt) = b1 ∧ (FloatKind.f32.format.order l 0 == some .eq) = b2 ∧ (b1 || b2) = true := by
  refine ⟨(lt_cmp (plus_val hl).1 mille_num.1 (by have := mille_num.2; grind)).1, _, _, rfl, rfl, ?_⟩
  by_cases c : 0 < Num.fv .f32 l
  · rw [cmp_gt' (plus_val hl).1 c0.1 (by rw [c0.2]; exact c)]; rfl
  · have := plus_nn hl
    rw [cmp_eq' (plus_val hl).1 c0.1 (by rw [c0.2]; grind)]; rfl
end Go.Proofs.Ytbpgbplepebcjaa
namespace Go.Proofs.Ytbpgbplepebcjaa
open Go.RowKit
open Num Quick
attribute [local go_sem] run_store_fl run_store_cx

theorem rBits32 (x : Nat) : ∀ w : World, (callFunc 123 #[.float .f32 x]).run Try.prog w = .ok (.value (.int .u32 (x : Int))) w := fun w => by
  rw [run_callFunc_extern (P := Try.prog) (f := 123) (fn := Try.f123) (e := Extern.MathFloatBits.float32bits) (by kernel_rfl) (by kernel_rfl) (by kernel_rfl) (by kernel_rfl) (by kernel_rfl)]
  rfl
theorem sbits_w {x : Nat} (hx : Fl .f32 x) : ∃ z : Int, ∀ w : World, Calls Try.prog 108 #[.float .f32 x] w fun e w' => e = .returned (.int .i64 z) ∧ w' = w := by
  have h1 : (FloatKind.f32.format.order x x != some .eq) = false := by rw [cmp_eq' hx hx rfl]; decide
  have k1 := rBits32 x
  refine ⟨wrap64 (x : Int), fun w => ?_⟩
  clear hx
  go_enter Try.func108, Try.ntmps108
  go_wp2
  go_ret
  exact ⟨rfl, rfl⟩
theorem ssame_w {x : Nat} (hx : Fl .f32 x) (w : World) : Calls Try.prog 80 #[.float .f32 x, .float .f32 x] w fun e w' => e = .returned (.bool true) ∧ w' = w := by
  obtain ⟨z, hz⟩ := sbits_w hx
  have HZ := Lib.hid hz
  clear hz hx
  go_enter Try.func80, Try.ntmps80
  go_wp2_with fail
  refine (HZ.out _).mono ?_
  rintro e w1 ⟨rfl, rfl⟩
  go_wp2_with fail
  refine (HZ.out _).mono ?_
  rintro e w1 ⟨rfl, rfl⟩
  go_wp2
  go_ret
  simp
theorem snumber_w {x : Nat} (hx : Fl .f32 x) (w : World) : Calls Try.prog 35 #[.float .f32 x, .float .f32 x] w fun e w' => e = .returned (.bool true) ∧ w' = w := by
  have HZ := Lib.hid (fun w => ssame_w hx w)
  clear hx
  go_enter Try.func35, Try.ntmps35
  go_wp2_with fail
  refine (HZ.out _).mono ?_
  rintro e w1 ⟨rfl, rfl⟩
  go_wp2
  go_ret
  exact ⟨rfl, rfl⟩
theorem scomplex_w {x y : Nat} (hx : Fl .f32 x) (hy : Fl .f32 y) (w : World) : Calls Try.prog 37 #[.complex .f32 x y, .complex .f32 x y] w fun e w' => e = .returned (.bool true) ∧ w' = w := by
  have HX := Lib.hid (fun w => ssame_w hx w)
  have HY := Lib.hid (fun w => ssame_w hy w)
  have CS : Hid (∀ w : World, Calls Try.prog 81 #[.complex .f32 x y, .complex .f32 x y] w fun e w' => e = .returned (.bool true) ∧ w' = w) := by
    refine Lib.hid fun w => ?_
    clear hx hy
    go_enter Try.func81, Try.ntmps81
    go_wp2_with fail
    refine (HX.out _).mono ?_
    rintro e w1 ⟨rfl, rfl⟩
    go_wp2_with fail
    refine (HY.out _).mono ?_
    rintro e w1 ⟨rfl, rfl⟩
    go_wp2
    go_ret
    exact ⟨rfl, rfl⟩
  clear hx hy HX HY
  go_enter Try.func37, Try.ntmps37
  go_wp2_with fail
  refine (CS.out _).mono ?_
  rintro e w1 ⟨rfl, rfl⟩
  go_wp2
  go_ret
  exact ⟨rfl, rfl⟩
end Go.Proofs.Ytbpgbplepebcjaa

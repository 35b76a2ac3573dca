/- Plain law with the walks' contracts: the sixteen phasors of sixteenths of turns; what a map makes of a point of the ball's edge. -/
import Derived.Test.YtbpgbplepebcjaaSwh
import Derived.Test.YtbpgbplepebcjaaSwf
namespace Go.Proofs.Ytbpgbplepebcjaa
open Go.RowKit
open Circ Num Quick

def calmB (t : Nat) : Bool :=
  (match floatBits .sub .f64 t t with | some d => FloatKind.f64.format.order d 0 == some .eq | none => false) && !ge t 4841369599423283200 && !(FloatKind.f64.format.order t 14064741636278059008 == some .lt || FloatKind.f64.format.order t 14064741636278059008 == some .eq)
theorem calmB_s {t : Nat} (h : calmB t = true) : CalmS t := by
  unfold calmB at h
  obtain ⟨h1, h2⟩ := Bool.and_eq_true_iff.1 h
  obtain ⟨h3, h4⟩ := Bool.and_eq_true_iff.1 h1
  refine ⟨?_, by simpa using h4, by simpa using h2⟩
  cases e : floatBits .sub .f64 t t with
  | none => rw [e] at h3; cases h3
  | some d => rw [e] at h3; exact ⟨d, rfl, h3⟩
def unitB (a b : Nat) : Bool := decide (a % FloatKind.f32.format.signWeight < FloatKind.f32.format.infRung) && decide (b % FloatKind.f32.format.signWeight < FloatKind.f32.format.infRung) && decide (Num.fv .f32 a * Num.fv .f32 a + Num.fv .f32 b * Num.fv .f32 b ≤ (1 + 1 / 1048576) * (1 + 1 / 1048576))
/-- The j-th sixteenth's phasor has nearly the length 1. -/
def edgeOk (j : Nat) : Bool :=
  match floatBits .quo .f64 (fi (j : Int)) 4625196817309499392 with
  | none => false
  | some t => match fraction t with
    | none => false
    | some f => match turnsLeft 3 f 0 with
      | none => false
      | some (g, n) => match floatBits .sub .f64 quarter g with
        | none => false
        | some e => match sine e with
          | none => false
          | some c => match sine g with
            | none => false
            | some s => match turned n c s with
              | none => false
              | some (a, b) => calmB t && calmB e && calmB g && unitB a b
set_option maxRecDepth 100000 in
theorem edges_ok : ∀ j : Nat, j < 16 → edgeOk j = true := by decide +kernel
/-- The law's turns, as it reckons them, and their phasors. -/
theorem edge_all (j : Nat) (hj : j < 16) : ∃ t a b, (∀ w : World, (binOp .quo 40 (.float .f64 (fi (j : Int))) (.float .f64 4625196817309499392)).run Try.prog w = .ok (.float .f64 t) w) ∧
    (∀ w : World, Calls Try.prog 28 #[.float .f64 t] w fun e' w' => e' = .returned (.complex .f32 a b) ∧ w' = w) ∧ Fl .f32 a ∧ Fl .f32 b ∧ Le2 (Num.fv .f32 a) (Num.fv .f32 b) (1 + 1 / 1048576) := by
  have h := edges_ok j hj
  unfold edgeOk at h
  split at h
  · cases h
  rename_i t ht
  split at h
  · cases h
  rename_i f hf
  split at h
  · cases h
  rename_i g n hT
  split at h
  · cases h
  rename_i e he
  split at h
  · cases h
  rename_i c hc
  split at h
  · cases h
  rename_i s hs
  split at h
  · cases h
  rename_i a b hab
  obtain ⟨h1, h2⟩ := Bool.and_eq_true_iff.1 h
  obtain ⟨h3, h4⟩ := Bool.and_eq_true_iff.1 h1
  obtain ⟨h5, h6⟩ := Bool.and_eq_true_iff.1 h3
  unfold unitB at h2
  obtain ⟨u1, u2⟩ := Bool.and_eq_true_iff.1 h2
  obtain ⟨u3, u4⟩ := Bool.and_eq_true_iff.1 u1
  refine ⟨t, a, b, r64 ht, fun w => ?_, show a % FloatKind.f32.format.signWeight < FloatKind.f32.format.infRung from of_decide_eq_true u3, show b % FloatKind.f32.format.signWeight < FloatKind.f32.format.infRung from of_decide_eq_true u4, ⟨by decide +kernel, of_decide_eq_true u2⟩⟩
  have SP := sphasor_calls w (calmB_s h5) hf hT he (calmB_s h6) (calmB_s h4) hc hs hab
  clear h ht hf hT he hc hs hab h1 h2 h3 h4 h5 h6 u1 u2 u3 u4
  go_enter Try.func28, Try.ntmps28
  go_wp2_with fail
  refine SP.mono ?_
  rintro e' w' ⟨rfl, rfl⟩
  go_wp2
  go_ret
  exact ⟨rfl, rfl⟩
theorem sscale_num {a b c : Nat} (ha : Fl .f32 a) (hb : Fl .f32 b) (hc : Fl .f32 c) (h1 : InR (Num.fv .f32 a * Num.fv .f32 c) top) (h2 : InR (Num.fv .f32 b * Num.fv .f32 c) top) :
    ∃ u v, (∀ w : World, Calls Try.prog 27 #[.complex .f32 a b, .float .f32 c] w fun e w' => e = .returned (.complex .f32 u v) ∧ w' = w) ∧ FR .f32 (Num.fv .f32 a * Num.fv .f32 c) u ∧ FR .f32 (Num.fv .f32 b * Num.fv .f32 c) v := by
  obtain ⟨u, u1, u2⟩ := fmul ha hc h1.1 h1.2
  obtain ⟨v, v1, v2⟩ := fmul hb hc h2.1 h2.2
  have k1 := r32 u1
  have k2 := r32 v1
  refine ⟨u, v, fun w => ?_, u2, v2⟩
  clear ha hb hc h1 h2 u1 v1 u2 v2
  go_enter Try.func27, Try.ntmps27
  go_wp2
  go_ret
  exact ⟨rfl, rfl⟩
abbrev milleK : Nat := 4607186922399644778
theorem milleK_num : Fl .f64 milleK ∧ 1 ≤ Num.fv .f64 milleK ∧ Num.fv .f64 milleK ≤ 2 := by
  refine ⟨?_, ?_, ?_⟩
  · show milleK % FloatKind.f64.format.signWeight < FloatKind.f64.format.infRung
    decide +kernel
  · unfold Num.fv val rv p2
    decide +kernel
  · unfold Num.fv val rv p2
    decide +kernel
theorem near_in {x y d : Rat} (h : x ≤ y + d ∧ y ≤ x + d) : InR (x - y) d := by
  unfold InR
  constructor <;> grind
/-- A map leads the edge of the ball into the ball, nearly. -/
theorem edge_map {x : Sm} {N B a b : Nat} (hN : 1 ≤ N) (hx : x.ok N) (hB : Fl .f32 B) (B0 : 0 ≤ Num.fv .f32 B) (B8 : Num.fv .f32 B ≤ 8) {Tm Sh : Rat} (hT : Le2 (Num.fv .f32 x.a) (Num.fv .f32 x.b) Tm) (hS : Le2 (Num.fv .f32 x.c) (Num.fv .f32 x.d) Sh) (T1 : Tm ≤ 1) (S2 : Sh ≤ 2) (hTS : Tm * Num.fv .f32 B + Sh ≤ Num.fv .f32 B + 1 / 131072)
    (ha : Fl .f32 a) (hb : Fl .f32 b) (hp : Le2 (Num.fv .f32 a) (Num.fv .f32 b) (1 + 1 / 1048576)) :
    ∃ eu ev u v l q qB m s, (∀ w : World, Calls Try.prog 27 #[.complex .f32 a b, .float .f32 B] w fun e w' => e = .returned (.complex .f32 eu ev) ∧ w' = w) ∧
      (∀ w : World, Calls Try.prog 10 #[smallV x.a x.b x.c x.d x.fl x.s, .complex .f32 eu ev] w fun e w' => e = .returned (.tuple #[.complex .f32 u v, .bool true]) ∧ Below w.heap.size w w') ∧
      (∀ w : World, Calls Try.prog 17 #[.complex .f32 u v] w fun e w' => e = .returned (.float .f32 l) ∧ w' = w) ∧
      (∀ w : World, (convert 27 40 (.float .f32 l)).run Try.prog w = .ok (.float .f64 q) w) ∧ (∀ w : World, (convert 27 40 (.float .f32 B)).run Try.prog w = .ok (.float .f64 qB) w) ∧
      (∀ w : World, (binOp .mul 40 (.float .f64 qB) (.float .f64 milleK)).run Try.prog w = .ok (.float .f64 m) w) ∧ (∀ w : World, (binOp .add 40 (.float .f64 m) (.float .f64 kilo64)).run Try.prog w = .ok (.float .f64 s) w) ∧
      (FloatKind.f64.format.order q s == some .gt) = false := by
  have k0 : (0 : Rat) ≤ 1 + 1 / 1048576 := by decide +kernel
  have t9 : (9 : Rat) ≤ top := by decide +kernel
  have t16 : (16 : Rat) ≤ top := by decide +kernel
  have m9 : (9 : Rat) ≤ mid := by decide +kernel
  have m12 : (16 : Rat) ≤ mid := by decide +kernel
  have K4 : p2 4 = 16 := by decide +kernel
  have K20 : p2 (4 - 24) = 1 / 1048576 := by decide +kernel
  have hpB := hp.scale B0
  have cB : Num.fv .f32 B * (1 + 1 / 1048576) ≤ Num.fv .f32 B + 1 / 131072 := by grind
  have cB9 : Num.fv .f32 B * (1 + 1 / 1048576) ≤ 9 := by grind
  have iu : InR (Num.fv .f32 a * Num.fv .f32 B) 9 := by have := hpB.fst; unfold InR at *; grind
  have iv : InR (Num.fv .f32 b * Num.fv .f32 B) 9 := by have := hpB.snd; unfold InR at *; grind
  obtain ⟨eu, ev, E1, eu1, ev1⟩ := sscale_num ha hb hB (in_mono iu t9) (in_mono iv t9)
  have nu := near_in (eu1.near32 4 (by decide) (by decide) (by rw [K4]; unfold InR at iu; grind) (by rw [K4]; unfold InR at iu; grind))
  have nv' := near_in (ev1.near32 4 (by decide) (by decide) (by rw [K4]; unfold InR at iv; grind) (by rw [K4]; unfold InR at iv; grind))
  rw [K20] at nu nv'
  have lE : Le2 (Num.fv .f32 eu) (Num.fv .f32 ev) (Num.fv .f32 B + 1 / 65536) := by
    have := (hpB.add (Le2.small nu nv')).mono (B := Num.fv .f32 B + 1 / 65536) (by grind)
    have e1 : Num.fv .f32 B * Num.fv .f32 a + (Num.fv .f32 eu - Num.fv .f32 a * Num.fv .f32 B) = Num.fv .f32 eu := by grind
    have e2 : Num.fv .f32 B * Num.fv .f32 b + (Num.fv .f32 ev - Num.fv .f32 b * Num.fv .f32 B) = Num.fv .f32 ev := by grind
    rwa [e1, e2] at this
  have evl : ev < 4294967296 := ev1.lt
  obtain ⟨ff, fe, fl'⟩ := flipN_num x.fl ev1.fin evl
  have lF : Le2 (Num.fv .f32 eu) (Num.fv .f32 (flipN x.fl ev)) (Num.fv .f32 B + 1 / 65536) := by
    rw [fe]
    cases x.fl
    · exact lE
    · exact lE.conj
  have i9 : Num.fv .f32 B + 1 / 65536 ≤ 9 := by grind
  have ieu := in_mono (in_mono lF.fst i9) m9
  have iev := in_mono (in_mono lF.snd i9) m9
  have o := hx.okSmall hN
  have i1 : (1 : Rat) ≤ mid := by decide +kernel
  have ia := in_mono o.ia i1
  have ib := in_mono o.ib i1
  obtain ⟨u1, v1, M1, fu1, fv1⟩ := mul_num o.fa o.fb eu1.fin ff ia ib ieu iev
  have lP := hT.mul lF
  have nT := hT.nn
  have nR := lF.nn
  have cT : Tm * (Num.fv .f32 B + 1 / 65536) ≤ Tm * Num.fv .f32 B + 1 / 65536 := by grind
  have cT9 : Tm * (Num.fv .f32 B + 1 / 65536) ≤ 9 := by
    have := Rat.mul_le_mul_of_nonneg_right T1 nR
    grind
  have ip1 := in_mono lP.fst cT9
  have ip2 := in_mono lP.snd cT9
  have n1 := near_in (fu1.near32 4 (by decide) (by decide) (by rw [K4]; unfold InR at ip1; grind) (by rw [K4]; unfold InR at ip1; grind))
  have n2 := near_in (fv1.near32 4 (by decide) (by decide) (by rw [K4]; unfold InR at ip2; grind) (by rw [K4]; unfold InR at ip2; grind))
  rw [K20] at n1 n2
  have isc := in_mono hS.fst S2
  have isd := in_mono hS.snd S2
  have is1 : InR (Num.fv .f32 u1 + Num.fv .f32 x.c) 16 := by unfold InR at *; grind
  have is2 : InR (Num.fv .f32 v1 + Num.fv .f32 x.d) 16 := by unfold InR at *; grind
  obtain ⟨u, v, A1, fu, fv'⟩ := add_num fu1.fin fv1.fin o.fc o.fd (in_mono is1 t16) (in_mono is2 t16)
  have n3 := near_in (fu.near32 4 (by decide) (by decide) (by rw [K4]; exact is1.1) (by rw [K4]; exact is1.2))
  have n4 := near_in (fv'.near32 4 (by decide) (by decide) (by rw [K4]; exact is2.1) (by rw [K4]; exact is2.2))
  rw [K20] at n3 n4
  have lW : Le2 (Num.fv .f32 u) (Num.fv .f32 v) (Tm * (Num.fv .f32 B + 1 / 65536) + 2 * (1 / 1048576) + Sh + 2 * (1 / 1048576)) := by
    have := ((lP.add (Le2.small n1 n2)).add hS).add (Le2.small n3 n4)
    have e1 : ∀ p q r s : Rat, p + (q - p) + r + (s - (q + r)) = s := by intros; grind
    rwa [e1, e1] at this
  have hA : Tm * (Num.fv .f32 B + 1 / 65536) + 2 * (1 / 1048576) + Sh + 2 * (1 / 1048576) ≤ 12 := by grind
  have hA2 : Tm * (Num.fv .f32 B + 1 / 65536) + 2 * (1 / 1048576) + Sh + 2 * (1 / 1048576) + 1 / 1048576 ≤ Num.fv .f32 B + 1 / 16384 := by grind
  have i12 : (12 : Rat) ≤ mid := by decide +kernel
  obtain ⟨l, _, l2, l3⟩ := long_num fu.fin fv'.fin (in_mono (in_mono lW.fst hA) i12) (in_mono (in_mono lW.snd hA) i12)
  have hsq := (lW.mono hA).sq
  have hll := (root_near32 l3 4 (by decide) (by decide) (by have := rsq_nn (Num.fv .f32 u); have := rsq_nn (Num.fv .f32 v); grind) (by rw [K4]; grind)).2 _ lW.nn lW.sq
  rw [K20] at hll
  obtain ⟨q, q1, q2, q3, q4⟩ := fwide l3.fin
  obtain ⟨qB, r1, r2, r3, r4⟩ := fwide hB
  obtain ⟨km, k1, k2⟩ := milleK_num
  have bm := Rat.mul_le_mul_of_nonneg_left k1 B0
  have bm2 := Rat.mul_le_mul_of_nonneg_left k2 B0
  obtain ⟨m, m1, m2⟩ := fmul r2 km (by rw [r4]; grind) (by rw [r4]; grind)
  rw [r4] at m2
  have hm1 : Num.fv .f32 B ≤ Num.fv .f64 m := by
    refine m2.ge _ ?_ (by grind)
    rw [← r4]
    exact rep_val _ r2
  have hm2 := m2.le_int 16 (by decide) (by have e : ((16 : Int) : Rat) = 16 := rfl
                                           rw [e]; grind)
  have e16 : ((16 : Int) : Rat) = 16 := rfl
  rw [e16] at hm2
  obtain ⟨kk, kk1, kk2⟩ := kilo64_num
  obtain ⟨s, s1, s2⟩ := fadd m2.fin kk (by grind) (by grind)
  have P5 : p2 5 = 32 := by decide +kernel
  have P48 : p2 (5 - 53) ≤ 1 / 1048576 := by decide +kernel
  have ns := (s2.near64 5 (by decide) (by decide) (by rw [P5]; grind) (by rw [P5]; grind)).2
  refine ⟨eu, ev, u, v, l, q, qB, m, s, E1, fun w => mapSmall_w x.fl o eu1.fin ev1.fin ?_ ?_ (maps_w x.fl M1 A1) fu.fin fv'.fin w, l2, rWide q1, rWide r1, r64 m1, r64 s1, ?_⟩
  · exact in_mono lE.fst (by grind)
  · exact in_mono lE.snd (by grind)
  · exact (le_cmp q2 s2.fin (by rw [q4]; grind)).2
end Go.Proofs.Ytbpgbplepebcjaa

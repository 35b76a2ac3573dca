/- Walks: a point divided by 8; equal lists of whole numbers are the same. Conditions: drawn points. Plain law: the sum of all words' shares, the order of words, and what lies between two doubles. -/
import Derived.Test.YtbpgbplepebcjaaSwm
import Derived.Test.YtbpgbplepebcjaaMp
import Derived.Laws.ComplexQuo
import Derived.Test.YtbpgbplepebcjaaSwi
import Derived.Test.YtbpgbplepebcjaaSwe
namespace Go.Proofs.Ytbpgbplepebcjaa
open Go.RowKit
open Num Quick

theorem run_conv64 {x r : Nat} (h : qwide x = some r) (w : World) : (Op.Complex.conv .f32 x .f64).run Try.prog w = .ok r w := by
  have h' := (qwide_eq x).symm.trans h
  unfold Op.Complex.conv
  rw [if_neg (by decide)]
  simp [run_floatToFloat w h']
theorem run_conv32 {x r : Nat} (h : qnarrow x = some r) (w : World) : (Op.Complex.conv .f64 x .f32).run Try.prog w = .ok r w := by
  have h' := (qnarrow_eq x).symm.trans h
  unfold Op.Complex.conv
  rw [if_neg (by decide)]
  simp [run_floatToFloat w h']
theorem fin_notNaN {x : Nat} (h : Fl .f64 x) : Op.Complex.isNaN x = false := by
  unfold Op.Complex.isNaN FloatKind.decode
  obtain ⟨s, m, p, e, _⟩ := read_fin FloatKind.f64.format h
  rw [e]
  rfl
theorem ge80 : absGe 4620693217682128896 0 = true := by decide +kernel
theorem run_cquo32 {P : Program} {t : TypeId} {a b c d a' b' c' d' e f u v : Nat} (w : World) (k1 : (Op.Complex.conv .f32 a .f64).run P w = .ok a' w) (k2 : (Op.Complex.conv .f32 b .f64).run P w = .ok b' w) (k3 : (Op.Complex.conv .f32 c .f64).run P w = .ok c' w) (k4 : (Op.Complex.conv .f32 d .f64).run P w = .ok d' w)
    (h : (Op.Complex.quotient a' b' c' d').run P w = .ok (e, f) w) (k5 : (Op.Complex.conv .f64 e .f32).run P w = .ok u w) (k6 : (Op.Complex.conv .f64 f .f32).run P w = .ok v w) :
    (binOp .quo t (.complex .f32 a b) (.complex .f32 c d)).run P w = .ok (.complex .f32 u v) w := by
  simp [binOp, Op.complexOp, k1, k2, k3, k4, k5, k6, h]
theorem w8w : qwide 1090519040 = some 4620693217682128896 := by decide +kernel
theorem w0w : qwide 0 = some 0 := by decide +kernel
/-- A point of quarters, divided by 8. -/
theorem eighth_c {a b : Nat} (ha : GF 2 8 a) (hb : GF 2 8 b) : ∃ u v, (∀ w : World, (binOp .quo 26 (.complex .f32 a b) (.complex .f32 1090519040 0)).run Try.prog w = .ok (.complex .f32 u v) w) ∧ Fl .f32 u ∧ Fl .f32 v ∧ InR (Num.fv .f32 u) 1 ∧ InR (Num.fv .f32 v) 1 := by
  obtain ⟨a', a1, a2, a3, a4⟩ := fwide ha.fin
  obtain ⟨b', b1, b2, b3, b4⟩ := fwide hb.fin
  have n8 : Fl .f64 4620693217682128896 ∧ Num.fv .f64 4620693217682128896 = 8 := by
    refine ⟨?_, ?_⟩
    · show (4620693217682128896 : Nat) % FloatKind.f64.format.signWeight < FloatKind.f64.format.infRung
      decide +kernel
    · unfold Num.fv val rv p2
      decide +kernel
  have n0 : Fl .f64 0 ∧ Num.fv .f64 0 = 0 := by
    refine ⟨?_, ?_⟩
    · show (0 : Nat) % FloatKind.f64.format.signWeight < FloatKind.f64.format.infRung
      decide +kernel
    · unfold Num.fv val rv p2
      decide +kernel
  have r1 : floatBits .quo .f64 0 4620693217682128896 = some 0 := by decide +kernel
  have r2 : floatBits .mul .f64 0 0 = some 0 := by decide +kernel
  have r3 : floatBits .add .f64 4620693217682128896 0 = some 4620693217682128896 := by decide +kernel
  have ia := ha.gr.bound (C := 2) (by decide)
  have ib := hb.gr.bound (C := 2) (by decide)
  have e2 : ((2 : Nat) : Rat) = 2 := rfl
  rw [e2] at ia ib
  unfold InR at ia ib
  have t2 : (2 : Rat) ≤ top := by decide +kernel
  obtain ⟨p, p1, p2'⟩ := fmul b2 n0.1 (by rw [n0.2]; grind) (by rw [n0.2]; grind)
  rw [n0.2, Rat.mul_zero] at p2'
  have pz : Num.fv .f64 p = 0 := p2'.num 0 0 (by decide +kernel) (by decide) (by decide)
  obtain ⟨q, q1, q2⟩ := fmul a2 n0.1 (by rw [n0.2]; grind) (by rw [n0.2]; grind)
  rw [n0.2, Rat.mul_zero] at q2
  have qz : Num.fv .f64 q = 0 := q2.num 0 0 (by decide +kernel) (by decide) (by decide)
  obtain ⟨s, s1, s2⟩ := fadd a2 p2'.fin (by rw [pz, a4]; grind) (by rw [pz, a4]; grind)
  rw [pz, a4, Rat.add_zero] at s2
  have sa : Num.fv .f64 s = Num.fv .f32 a := s2.exact _ (rep_wide (rep_val _ ha.fin))
  obtain ⟨t, t1, t2'⟩ := fsub b2 q2.fin (by rw [qz, b4]; grind) (by rw [qz, b4]; grind)
  have z1 : ∀ x : Rat, x - 0 = x := fun x => by grind
  rw [qz, b4, z1] at t2'
  have tb : Num.fv .f64 t = Num.fv .f32 b := t2'.exact _ (rep_wide (rep_val _ hb.fin))
  have d8 : ∀ x : Rat, x / 8 = x * (1 / 8) := fun x => by rw [Rat.div_def, Rat.div_def, Rat.one_mul]
  obtain ⟨e, e1, e3⟩ := fdiv s2.fin n8.1 (by rw [n8.2]; decide) (by rw [n8.2, sa, d8]; grind) (by rw [n8.2, sa, d8]; grind)
  obtain ⟨f, f1, f3⟩ := fdiv t2'.fin n8.1 (by rw [n8.2]; decide) (by rw [n8.2, tb, d8]; grind) (by rw [n8.2, tb, d8]; grind)
  have B0 : p2 0 = 1 := by decide +kernel
  have he := e3.within 0 (by decide) (by decide) (by rw [n8.2, sa, d8, B0]; grind) (by rw [n8.2, sa, d8, B0]; grind)
  have hf := f3.within 0 (by decide) (by decide) (by rw [n8.2, tb, d8, B0]; grind) (by rw [n8.2, tb, d8, B0]; grind)
  rw [B0] at he hf
  obtain ⟨u, u1, u2⟩ := fnarrow e3.fin (by grind) (by grind)
  obtain ⟨v, v1, v2⟩ := fnarrow f3.fin (by grind) (by grind)
  have hu := u2.within 0 (by decide) (by decide) (by rw [B0]; grind) (by rw [B0]; grind)
  have hv := v2.within 0 (by decide) (by decide) (by rw [B0]; grind) (by rw [B0]; grind)
  rw [B0] at hu hv
  refine ⟨u, v, fun w => ?_, u2.fin, v2.fin, hu, hv⟩
  refine run_cquo32 w (run_conv64 a1 w) (run_conv64 b1 w) (run_conv64 w8w w) (run_conv64 w0w w) (run_quotient_ge w ge80 r1 r2 r3 p1 s1 e1 q1 t1 f1 ?_) (run_conv32 u1 w) (run_conv32 v1 w)
  rw [fin_notNaN e3.fin]
  rfl
set_option maxRecDepth 100000 in
set_option maxHeartbeats 1000000 in
theorem b10Ints_same (A A' : Option Addr) (n c c' : Nat) (D : List Nat) (w : World) (hn : n ≤ 1048576) (hl : D.length = n) (hA : Rd w w.heap.size 1 A n (D.map nv)) (hA' : Rd w w.heap.size 1 A' n (D.map nv)) :
    Calls Try.prog 31 #[.slice A n c, .slice A' n c'] w fun e w' => e = .returned (.bool true) ∧ Below w.heap.size w w' := by
  have HA := Lib.hid hA
  have HA' := Lib.hid hA'
  have HL := Lib.hid hl
  clear hA hA' hl
  go_enter Try.func31, Try.ntmps31
  go_wp2
  go_loopw [13] (fun i wr => ∃ k : Nat, k ≤ n ∧ i = .int .i64 (k : Int) ∧ Hid (Below w.heap.size w wr)) (fun i _ => n - (intOf i).toNat)
  case atStart => exact ⟨0, Nat.zero_le _, rfl, Lib.hid (Below.refl _ _)⟩
  case round =>
    obtain ⟨k, hk, rfl, HB⟩ := hrel
    by_cases hlt : k < n
    · obtain ⟨b, off, rfl, hbb, hc⟩ := HA.out.2 (by omega)
      obtain ⟨b', off', rfl, hbb', hc'⟩ := HA'.out.2 (by omega)
      have c1 := (HB.out.cell (p := ⟨b, off + k, none⟩) hbb).trans (hc _ _ (nv_get HL.out hlt))
      have c3 := (HB.out.cell (p := ⟨b', off' + k, none⟩) hbb').trans (hc' _ _ (nv_get HL.out hlt))
      clear hc hc'
      generalize D.getD k 0 = p at *
      have hkI : (k : Int) < (n : Int) := Int.ofNat_lt.mpr hlt
      go_wp2
      go_quiet (fail)
      go_wp2
      go_roundw
      case rel => exact ⟨k + 1, by omega, by go_num, ⟨HB.out.os, HB.out.tape, HB.out.output, HB.out.size, HB.out.block⟩⟩
      case measure => simp [intOf]; omega
    · obtain rfl : k = n := by omega
      go_wp2
      go_ret
      exact ⟨rfl, HB.out⟩
end Go.Proofs.Ytbpgbplepebcjaa
namespace Go.Proofs.Ytbpgbplepebcjaa
open Go.RowKit
open Num Quick

/-- Which word comes first, as the law reckons it from its first i letters. -/
def ordF (W B : List Nat) : Nat → Int
  | 0 => 0
  | i + 1 => if ordF W B i = 0 ∧ W.getD i 0 ≠ B.getD i 0 then (if W.getD i 0 < B.getD i 0 then -1 else 1) else ordF W B i
def ordOk (N l k : Nat) : Bool := decide (k < 1) || !decide (k < N ^ l) || decide (ordF (dgs N l k) (dgs N l (k - 1)) l = 1)
theorem ord_all : ([1, 2, 4].all fun N => [1, 2, 3].all fun l => (List.range 64).all fun k => ordOk N l k) = true := by decide +kernel
theorem ord_up (N : Nat) (hN : N = 1 ∨ N = 2 ∨ N = 4) (l : Nat) (h1 : 1 ≤ l) (h3 : l ≤ 3) (k : Nat) (hk : 1 ≤ k) (hkl : k < N ^ l) : ordF (dgs N l k) (dgs N l (k - 1)) l = 1 := by
  have h64 : N ^ l ≤ 64 := by
    rcases hN with rfl | rfl | rfl <;> rcases (show l = 1 ∨ l = 2 ∨ l = 3 by omega) with rfl | rfl | rfl <;> decide
  have h := ord_all
  rw [List.all_eq_true] at h
  have h2 := h N (by rcases hN with rfl | rfl | rfl <;> decide)
  rw [List.all_eq_true] at h2
  have h3' := h2 l (by rcases (show l = 1 ∨ l = 2 ∨ l = 3 by omega) with rfl | rfl | rfl <;> decide)
  rw [List.all_eq_true] at h3'
  have h4 := h3' k (List.mem_range.2 (by omega))
  unfold ordOk at h4
  rw [Bool.or_eq_true, Bool.or_eq_true] at h4
  rcases h4 with (h5 | h5) | h5
  · exact absurd (of_decide_eq_true h5) (by omega)
  · simp at h5
    omega
  · exact of_decide_eq_true h5
theorem pow_le64 {N l : Nat} (hN : N = 1 ∨ N = 2 ∨ N = 4) (h3 : l ≤ 3) : N ^ l ≤ 64 := by
  rcases hN with rfl | rfl | rfl <;> rcases (show l = 0 ∨ l = 1 ∨ l = 2 ∨ l = 3 by omega) with rfl | rfl | rfl | rfl <;> decide
theorem pow_two {N l : Nat} (hN : N = 1 ∨ N = 2 ∨ N = 4) : ∃ e : Nat, N ^ l = 2 ^ e ∧ e ≤ 2 * l := by
  rcases hN with rfl | rfl | rfl
  · exact ⟨0, by simp, by omega⟩
  · exact ⟨l, rfl, by omega⟩
  · exact ⟨2 * l, by rw [Nat.pow_mul], by omega⟩
/-- The sum of the shares of k words out of C. -/
structure SumR (C k S : Nat) : Prop where
  fl : Fl .f64 S
  v : Num.fv .f64 S * (C : Rat) = (k : Rat)
theorem sum_start (C : Nat) : SumR C 0 0 := by
  refine ⟨?_, ?_⟩
  · show (0 : Nat) % FloatKind.f64.format.signWeight < FloatKind.f64.format.infRung
    decide +kernel
  · have : Num.fv .f64 0 = 0 := by
      unfold Num.fv val rv p2
      decide +kernel
    rw [this]
    exact Rat.zero_mul _
theorem sum_step {N l k S s : Nat} (hN : N = 1 ∨ N = 2 ∨ N = 4) (h3 : l ≤ 3) (hk : k < N ^ l) (h : SumR (N ^ l) k S) (hs : Sh N l s) : ∃ q S', (∀ w : World, (convert 27 40 (.float .f32 s)).run Try.prog w = .ok (.float .f64 q) w) ∧ (∀ w : World, (binOp .add 40 (.float .f64 S) (.float .f64 q)).run Try.prog w = .ok (.float .f64 S') w) ∧ SumR (N ^ l) (k + 1) S' := by
  obtain ⟨q, q1, q2, q3, q4⟩ := fwide hs.g.fin
  obtain ⟨e, e1, e2⟩ := pow_two (l := l) hN
  have h64 := pow_le64 hN h3
  have hv := h.v
  have hs' := hs.v
  rw [e1] at hv hs' h64 hk
  have hp : (0 : Rat) < ((2 ^ e : Nat) : Rat) := pow_pos' e
  have hsum : Num.fv .f64 S + Num.fv .f64 q = ((k + 1 : Nat) : Int) / ((2 ^ e : Nat) : Rat) := by
    rw [q4, Rat.intCast_natCast, Rat.natCast_add]
    have h1 : ((1 : Nat) : Rat) = 1 := rfl
    rw [h1]
    have : (Num.fv .f64 S + Num.fv .f32 s) * ((2 ^ e : Nat) : Rat) = (k : Rat) + 1 := by grind
    rw [← this, Rat.div_def, Rat.mul_assoc, Rat.mul_inv_cancel _ (by grind), Rat.mul_one]
  have hrep := rep_frac .f64 ((k + 1 : Nat) : Int) e (by omega) (by omega)
  rw [← hsum] at hrep
  have b1 : Num.fv .f64 S + Num.fv .f64 q ≤ 1 := by
    have k1 : (Num.fv .f64 S + Num.fv .f32 s) * ((2 ^ e : Nat) : Rat) = (k : Rat) + 1 := by grind
    have k2 : (k : Rat) + 1 ≤ ((2 ^ e : Nat) : Rat) := by
      have := Rat.natCast_le_natCast.2 (show k + 1 ≤ 2 ^ e from hk)
      rw [Rat.natCast_add] at this
      exact this
    rw [q4]
    by_cases c : Num.fv .f64 S + Num.fv .f32 s ≤ 1
    · exact c
    · exfalso
      have := Rat.mul_pos (show 0 < Num.fv .f64 S + Num.fv .f32 s - 1 by grind) hp
      grind
  have b0 : 0 ≤ Num.fv .f64 S + Num.fv .f64 q := by
    have k1 : (Num.fv .f64 S + Num.fv .f32 s) * ((2 ^ e : Nat) : Rat) = (k : Rat) + 1 := by grind
    have k0 : (0 : Rat) ≤ (k : Rat) := Rat.natCast_nonneg
    rw [q4]
    by_cases c : 0 ≤ Num.fv .f64 S + Num.fv .f32 s
    · exact c
    · exfalso
      have := Rat.mul_pos (show 0 < -(Num.fv .f64 S + Num.fv .f32 s) by grind) hp
      grind
  have t1 : (1 : Rat) ≤ top := by decide +kernel
  obtain ⟨S', s1, s2⟩ := fadd h.fl q2 (by grind) (by grind)
  have s3 : Num.fv .f64 S' = Num.fv .f64 S + Num.fv .f64 q := s2.exact _ hrep
  refine ⟨q, S', rWide q1, r64 s1, s2.fin, ?_⟩
  rw [s3, q4, e1, Rat.natCast_add]
  have h1 : ((1 : Nat) : Rat) = 1 := rfl
  rw [h1]
  grind
theorem sum_end {C S : Nat} (hC : 0 < C) (h : SumR C C S) : Num.fv .f64 S = 1 := by
  have hv := h.v
  have hp : (0 : Rat) < (C : Rat) := Rat.natCast_pos.2 hC
  have h3 : (Num.fv .f64 S - 1) * (C : Rat) = 0 := by grind
  rcases Rat.mul_eq_zero.1 h3 with h4 | h4
  · grind
  · grind
/-- Equal points: their difference is short. -/
theorem same_point {p q : Nat × Nat} (h1 : Fl .f32 p.1) (h2 : Fl .f32 p.2) (h3 : Fl .f32 q.1) (h4 : Fl .f32 q.2) (h : ptR p = ptR q) :
    ∃ x y l d, (∀ w : World, (binOp .sub 26 (.complex .f32 p.1 p.2) (.complex .f32 q.1 q.2)).run Try.prog w = .ok (.complex .f32 x y) w) ∧
      (∀ w : World, Calls Try.prog 17 #[.complex .f32 x y] w fun e w' => e = .returned (.float .f32 l) ∧ w' = w) ∧
      (∀ w : World, (convert 27 40 (.float .f32 l)).run Try.prog w = .ok (.float .f64 d) w) ∧ (FloatKind.f64.format.order d kilo64 == some .gt) = false := by
  unfold ptR at h
  injection h with e1 e2
  have t0 : (0 : Rat) ≤ 1 / 131072 := by decide +kernel
  have t1 : -(1 / 131072 : Rat) ≤ 0 := by decide +kernel
  obtain ⟨x, y, l, d, q1, q2, q3, q4, q5, q6⟩ := short_num h1 h2 h3 h4 (by rw [e1]; unfold InR; constructor <;> grind) (by rw [e2]; unfold InR; constructor <;> grind)
  have e : (1 / 65536 : Rat) ≤ 1 / 1024 := by decide +kernel
  have k := kilo64_num.2.1
  exact ⟨x, y, l, d, q1, q2, q3, (le_cmp q4 kilo64_num.1 (by grind)).2⟩
/-- Equal doubles lie less than a hundredth apart. -/
theorem gap_one {S : Nat} (hS : Fl .f64 S) (h1 : Num.fv .f64 S = 1) : ∃ d, (∀ w : World, Calls Try.prog 26 #[.float .f64 S, .float .f64 4607182418800017408] w fun e w' => e = .returned (.float .f64 d) ∧ w' = w) ∧ (FloatKind.f64.format.order d 4576918229304087675 == some .gt) = false := by
  obtain ⟨o1, o2⟩ := one64_num
  have t0 : (0 : Rat) ≤ top := by decide +kernel
  have z0 : (1 : Rat) - 1 = 0 := by decide +kernel
  obtain ⟨d, d1, d2⟩ := fsub hS o1 (by rw [h1, o2, z0]; exact t0) (by rw [h1, o2, z0]; decide +kernel)
  rw [h1, o2, z0] at d2
  have dz : Num.fv .f64 d = 0 := d2.num 0 0 (by decide +kernel) (by decide) (by decide)
  have nl := not_lt_cmp hS o1 (by rw [h1, o2]; exact Rat.le_refl)
  have k1 := r64 d1
  have hc : Fl .f64 4576918229304087675 ∧ 0 ≤ Num.fv .f64 4576918229304087675 := by
    refine ⟨?_, ?_⟩
    · show (4576918229304087675 : Nat) % FloatKind.f64.format.signWeight < FloatKind.f64.format.infRung
      decide +kernel
    · unfold Num.fv val rv p2
      decide +kernel
  refine ⟨d, fun w => ?_, (le_cmp d2.fin hc.1 (by rw [dz]; exact hc.2)).2⟩
  clear hS h1 o1 o2 d1 d2 dz hc t0 z0
  go_enter Try.func26, Try.ntmps26
  go_wp2
  go_ret
  exact ⟨rfl, rfl⟩
end Go.Proofs.Ytbpgbplepebcjaa

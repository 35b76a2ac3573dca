/- Walks: a step to a root, by its words. Conditions: the plain functions give numbers. -/
import Derived.Test.YtjmidicidgaapaaYa
import Derived.Test.YtjmidicidgaapaaEk
import Derived.Test.YtjmidicidgaapaaEf
import Derived.StillTailTactics
namespace Go.Proofs.Ytjmidicidgaapaa
open Go.RowKit
open Num Quick Circ

section
variable (w : World)
theorem addW {a b c d u v : Nat} (h1 : floatBits .add .f32 a c = some u) (h2 : floatBits .add .f32 b d = some v) : Calls Try.prog 43 #[.complex .f32 a b, .complex .f32 c d] w fun e w' => e = .returned (.complex .f32 u v) ∧ w' = w := by
  have q1 := r32 h1
  have q2 := r32 h2
  clear h1 h2
  go_enter Try.func43, Try.ntmps43
  go_wp2
  go_ret
  exact ⟨rfl, rfl⟩
theorem subW {a b c d u v : Nat} (h1 : floatBits .sub .f32 a c = some u) (h2 : floatBits .sub .f32 b d = some v) : Calls Try.prog 26 #[.complex .f32 a b, .complex .f32 c d] w fun e w' => e = .returned (.complex .f32 u v) ∧ w' = w := by
  have q1 := r32 h1
  have q2 := r32 h2
  clear h1 h2
  go_enter Try.func26, Try.ntmps26
  go_wp2
  go_ret
  exact ⟨rfl, rfl⟩
theorem scaleW {a b c u v : Nat} (h1 : floatBits .mul .f32 a c = some u) (h2 : floatBits .mul .f32 b c = some v) : Calls Try.prog 55 #[.complex .f32 a b, .float .f32 c] w fun e w' => e = .returned (.complex .f32 u v) ∧ w' = w := by
  have q1 := r32 h1
  have q2 := r32 h2
  clear h1 h2
  go_enter Try.func55, Try.ntmps55
  go_wp2
  go_ret
  exact ⟨rfl, rfl⟩
theorem quoW {a b c d x y : Nat} (h : quoC a b c d = some (x, y)) : Calls Try.prog 54 #[.complex .f32 a b, .complex .f32 c d] w fun e w' => e = .returned (.complex .f32 x y) ∧ w' = w := by
  unfold quoC wide narrow at h
  obtain ⟨a2, ha, h1⟩ := af_some h
  obtain ⟨b2, hb, h2⟩ := af_some h1
  obtain ⟨c2, hc, h3⟩ := af_some h2
  obtain ⟨d2, hd, h4⟩ := af_some h3
  obtain ⟨p, hp, h5⟩ := opf_some h4
  obtain ⟨q, hq, h6⟩ := opf_some h5
  obtain ⟨u, hu, h7⟩ := opf_some h6
  obtain ⟨r, hr, h8⟩ := opf_some h7
  obtain ⟨s, hs, h9⟩ := opf_some h8
  obtain ⟨v, hv, h10⟩ := opf_some h9
  obtain ⟨g, hg, h11⟩ := opf_some h10
  obtain ⟨i, hi, h12⟩ := opf_some h11
  obtain ⟨e, he, h13⟩ := opf_some h12
  obtain ⟨m, hm, h14⟩ := opf_some h13
  obtain ⟨n, hn, h15⟩ := opf_some h14
  obtain ⟨x', hx, h16⟩ := af_some h15
  obtain ⟨y', hy, h17⟩ := af_some h16
  cases h17
  have C1 := Lib.hid (parts_w w ha hb)
  have C2 := Lib.hid (parts_w w hc hd)
  have C3 := Lib.hid (times_w w hp hq hu hr hs hv)
  have C4 := Lib.hid (power_w w hc hd hg hi he)
  have k1 := r64 hm
  have k2 := r64 hn
  have k3 := rNarrow hx
  have k4 := rNarrow hy
  have k5 := unary_ng64 d2
  clear h h1 h2 h3 h4 h5 h6 h7 h8 h9 h10 h11 h12 h13 h14 h15 h16 ha hb hc hd hp hq hu hr hs hv hg hi he hm hn hx hy
  go_enter Try.func54, Try.ntmps54
  go_wp2_with fail
  refine C1.out.mono ?_
  rintro e w1 ⟨rfl, rfl⟩
  go_wp2_with fail
  refine C2.out.mono ?_
  rintro e w1 ⟨rfl, rfl⟩
  go_wp2_with fail
  refine C3.out.mono ?_
  rintro e w1 ⟨rfl, rfl⟩
  go_wp2_with fail
  refine C4.out.mono ?_
  rintro e w1 ⟨rfl, rfl⟩
  go_wp2
  go_ret
  exact ⟨rfl, rfl⟩
theorem fw_eq {n : Nat} (h : 1 ≤ n) (h6 : n ≤ 6) : floatOfInt .f32 (n : Int) = fw n := by
  rcases (by omega : n = 1 ∨ n = 2 ∨ n = 3 ∨ n = 4 ∨ n = 5 ∨ n = 6) with rfl | rfl | rfl | rfl | rfl | rfl <;> decide
theorem powN_lt {a b : Nat} {j m : Nat} {r : Nat × Nat} (h : powN a b m = some r) (hj : j ≤ m) : ∃ z, powN a b j = some z := by
  induction m generalizing r with
  | zero =>
    obtain rfl : j = 0 := by omega
    exact ⟨r, h⟩
  | succ m ih =>
    rcases Nat.eq_or_lt_of_le hj with rfl | hj
    · exact ⟨r, h⟩
    · unfold powN at h
      cases e : powN a b m with
      | none => rw [e] at h; cases h
      | some z => exact ih e (by omega)
end
/-- What a step's words are. -/
theorem step_parts {n a b : Nat} {r : Nat × Nat} (h : stepN n a b = some r) : ∃ x y u v m k p q s t, powN a b (n - 2) = some (x, y) ∧ mulC x y a b = some (u, v) ∧ floatBits .mul .f32 u (fw (n - 1)) = some m ∧ floatBits .mul .f32 v (fw (n - 1)) = some k ∧
    floatBits .add .f32 m 1065353216 = some p ∧ floatBits .add .f32 k 0 = some q ∧ floatBits .mul .f32 x (fw n) = some s ∧ floatBits .mul .f32 y (fw n) = some t ∧ quoC p q s t = some r := by
  unfold stepN at h
  cases e1 : powN a b (n - 2) with
  | none => rw [e1] at h; cases h
  | some xy =>
    obtain ⟨x, y⟩ := xy
    rw [e1] at h
    simp only at h
    cases e2 : topC n a b x y with
    | none => rw [e2] at h; cases h
    | some pq =>
      obtain ⟨p, q⟩ := pq
      rw [e2] at h
      simp only at h
      unfold topC at e2
      cases e3 : mulC x y a b with
      | none => rw [e3] at e2; cases e2
      | some uv =>
        obtain ⟨u, v⟩ := uv
        rw [e3] at e2
        simp only at e2
        obtain ⟨m, hm, e2⟩ := opg_some e2
        obtain ⟨k, hk, e2⟩ := opg_some e2
        obtain ⟨p', hp, e2⟩ := opg_some e2
        obtain ⟨q', hq, e2⟩ := opg_some e2
        cases e2
        obtain ⟨s, hs, h⟩ := opg_some h
        obtain ⟨t, ht, h⟩ := opg_some h
        exact ⟨x, y, u, v, m, k, p, q, s, t, rfl, e3, hm, hk, hp, hq, hs, ht, h⟩
set_option maxRecDepth 100000 in
set_option maxHeartbeats 2000000 in
/-- The step, up to its quotient. -/
theorem step_walk {n a b x y u v m k p q s t : Nat} (hn : 2 ≤ n) (hn6 : n ≤ 6) (h1 : powN a b (n - 2) = some (x, y)) (h2 : mulC x y a b = some (u, v)) (h3 : floatBits .mul .f32 u (fw (n - 1)) = some m) (h4 : floatBits .mul .f32 v (fw (n - 1)) = some k)
    (h5 : floatBits .add .f32 m 1065353216 = some p) (h6 : floatBits .add .f32 k 0 = some q) (h7 : floatBits .mul .f32 x (fw n) = some s) (h8 : floatBits .mul .f32 y (fw n) = some t) {R : Ending → World → Prop} (w : World)
    (hq : Calls Try.prog 54 #[.complex .f32 p q, .complex .f32 s t] w R) (hR : ∀ e w', R e w' → ∃ c d, e = .returned (.complex .f32 c d)) :
    Calls Try.prog 33 #[.int .i64 (n : Int), .complex .f32 a b] w R := by
  obtain ⟨j2, hj2⟩ : ∃ j, n - 2 = j := ⟨_, rfl⟩
  have hz2 : (n : Int) - 2 = (j2 : Int) := by omega
  obtain ⟨n1, hn1⟩ : ∃ j, n - 1 = j := ⟨_, rfl⟩
  have hz1 : (n : Int) - 1 = (n1 : Int) := by omega
  rw [hj2] at h1
  rw [hn1] at h3 h4
  have c1 := rInt32 (n1 : Int)
  rw [fw_eq (n := n1) (by omega) (by omega)] at c1
  have c2 := rInt32 (n : Int)
  rw [fw_eq (n := n) (by omega) (by omega)] at c2
  have M1 := Lib.hid (fun w => mul_calls w h2)
  have S1 := Lib.hid (fun w => scaleW w h3 h4)
  have A1 := Lib.hid (fun w => addW w h5 h6)
  have S2 := Lib.hid (fun w => scaleW w h7 h8)
  have Q1 := Lib.hid hq
  have H1 := Lib.hid h1
  have HR := Lib.hid hR
  have hjn : j2 ≤ 4 := by omega
  clear h1 h2 h3 h4 h5 h6 h7 h8 hq hj2 hn1 hR
  go_enter Try.func33, Try.ntmps33
  go_wp2
  go_loopw [5, 9] (fun sp si wr => ∃ (i x' y' : Nat), si = .int .i64 (i : Int) ∧ i ≤ j2 ∧ sp = .complex .f32 x' y' ∧ Hid (powN a b i = some (x', y')) ∧ wr = w) (fun _ si _ => j2 - (intOf si).toNat)
  case atStart => exact ⟨0, a, b, rfl, Nat.zero_le _, rfl, Lib.hid rfl, rfl⟩
  case round =>
    obtain ⟨i, x', y', rfl, hi, rfl, HP, rfl⟩ := hrel
    by_cases hlt : i < j2
    · have hii : (i : Int) < (j2 : Int) := by omega
      obtain ⟨⟨x2, y2⟩, h2⟩ := powN_lt H1.out (show i + 1 ≤ j2 by omega)
      have h3 := h2
      unfold powN at h3
      rw [HP.out] at h3
      simp only at h3
      have M2 := Lib.hid (fun w => mul_calls w h3)
      have H2 := Lib.hid h2
      clear h2 h3 H1 HR Q1 S1 A1 S2 M1
      go_wp2_with fail
      refine (M2.out _).mono ?_
      rintro e w1 ⟨rfl, hw1⟩
      obtain rfl := hw1.symm
      go_wp2
      go_roundw
      case rel => exact ⟨i + 1, x2, y2, by go_num, by omega, rfl, H2, by first | rfl | trivial⟩
      case measure => simp [intOf]; omega
    · obtain rfl : j2 = i := by omega
      have hxy := HP.out.symm.trans H1.out
      simp only [Option.some.injEq, Prod.mk.injEq] at hxy
      obtain ⟨rfl, rfl⟩ := hxy
      clear H1 HP
      go_wp2_with fail
      refine (M1.out _).mono ?_
      rintro e w1 ⟨rfl, hw1⟩
      obtain rfl := hw1.symm
      go_wp2_with fail
      refine (S1.out _).mono ?_
      rintro e w1 ⟨rfl, hw1⟩
      obtain rfl := hw1.symm
      go_wp2_with fail
      refine (A1.out _).mono ?_
      rintro e w1 ⟨rfl, hw1⟩
      obtain rfl := hw1.symm
      go_wp2_with fail
      refine (S2.out _).mono ?_
      rintro e w1 ⟨rfl, hw1⟩
      obtain rfl := hw1.symm
      go_wp2_with fail
      refine Q1.out.mono ?_
      intro e w1 hr
      obtain ⟨c, d, rfl⟩ := HR.out _ _ hr
      have HH := Lib.hid hr
      clear hr
      go_wp2
      exact HH.out
theorem step_calls {n a b : Nat} {r : Nat × Nat} (hn : 2 ≤ n) (hn6 : n ≤ 6) (h : stepN n a b = some r) (w : World) : Calls Try.prog 33 #[.int .i64 (n : Int), .complex .f32 a b] w fun e w' => e = .returned (.complex .f32 r.1 r.2) ∧ w' = w := by
  obtain ⟨x, y, u, v, m, k, p, q, s, t, h1, h2, h3, h4, h5, h6, h7, h8, h9⟩ := step_parts h
  exact step_walk hn hn6 h1 h2 h3 h4 h5 h6 h7 h8 w (quoW w h9) (fun e w' hr => ⟨r.1, r.2, hr.1⟩)
end Go.Proofs.Ytjmidicidgaapaa

namespace Go.Proofs.Ytjmidicidgaapaa
open Go.RowKit
open Num Quick Circ

/-- The word of what is not a number. -/
def NaN (k : FloatKind) (w : Nat) : Prop := k.format.infRung < w % k.format.signWeight ∧ w < 2 * k.format.signWeight
theorem NaN.read {k : FloatKind} {w : Nat} (h : NaN k w) : ∃ s t, k.format.read w = .nan s t := by
  have h1 := h.1
  have hb : k.format.binade ≤ k.format.infRung := by cases k <;> decide
  unfold Ieee.Format.read
  generalize w % k.format.signWeight = q at h1
  simp only
  rw [if_neg (by omega), if_neg (by omega), if_neg (by omega)]
  exact ⟨_, _, rfl⟩
theorem NaN.order {k : FloatKind} {w : Nat} (h : NaN k w) (y : Nat) : k.format.order w y = none := by
  obtain ⟨s, t, e⟩ := h.read
  unfold Ieee.Format.order
  rw [e]
  rfl
theorem NaN.order' {k : FloatKind} {w : Nat} (h : NaN k w) (y : Nat) : k.format.order y w = none := by
  obtain ⟨s, t, e⟩ := h.read
  unfold Ieee.Format.order
  rw [e]
  cases k.format.read y <;> rfl
theorem NaN.arith {k : FloatKind} {x : Nat} (h : NaN k x) (op : BinOp) (ho : op = .add ∨ op = .sub ∨ op = .mul) (y : Nat) : floatBits op k x y = none := by
  obtain ⟨s, t, e⟩ := h.read
  rcases ho with rfl | rfl | rfl
  · show k.format.add x y = none
    unfold Ieee.Format.add; rw [e]; rfl
  · show k.format.sub x y = none
    unfold Ieee.Format.sub; rw [e]; rfl
  · show k.format.mul x y = none
    unfold Ieee.Format.mul; rw [e]; rfl
theorem NaN.sqrt {x : Nat} (h : NaN .f64 x) : FloatKind.f64.format.sqrt x = none := by
  obtain ⟨s, t, e⟩ := h.read
  unfold Ieee.Format.sqrt
  rw [e]; rfl
theorem NaN.abs {x : Nat} (h : NaN .f64 x) : NaN .f64 (Num.absP x) := by
  obtain ⟨h1, h2⟩ := h
  have hs : FloatKind.f64.format.signWeight = 9223372036854775808 := by decide
  have hi : FloatKind.f64.format.infRung = 9218868437227405312 := by decide
  rw [hs, hi] at h1
  rw [hs] at h2
  have e : Num.absP x = x % 9223372036854775808 := by
    unfold Num.absP
    exact Nat.and_two_pow_sub_one_eq_mod x 63
  unfold NaN
  rw [hs, hi, e]
  omega
theorem nanWord64 (t : Nat) : NaN .f64 ((t % 2) * 2 ^ 63 + 0x7ff0000000000000 + 1 + (t / 2) % (2 ^ 52 - 1)) := by
  have hs : FloatKind.f64.format.signWeight = 9223372036854775808 := by decide
  have hi : FloatKind.f64.format.infRung = 9218868437227405312 := by decide
  have h2 : (t / 2) % (2 ^ 52 - 1) < 2 ^ 52 - 1 := Nat.mod_lt _ (by decide)
  generalize (t / 2) % (2 ^ 52 - 1) = q at h2
  have p1 : (2 : Nat) ^ 63 = 9223372036854775808 := by decide
  have p2 : (2 : Nat) ^ 52 - 1 = 4503599627370495 := by decide
  rw [p1]
  rw [p2] at h2
  unfold NaN
  rw [hs, hi]
  omega
theorem nanWord32 (t : Nat) : NaN .f32 ((t % 2) * 2 ^ 31 + 0x7f800000 + 1 + (t / 2) % (2 ^ 23 - 1)) := by
  have hs : FloatKind.f32.format.signWeight = 2147483648 := by decide
  have hi : FloatKind.f32.format.infRung = 2139095040 := by decide
  have h2 : (t / 2) % (2 ^ 23 - 1) < 2 ^ 23 - 1 := Nat.mod_lt _ (by decide)
  generalize (t / 2) % (2 ^ 23 - 1) = q at h2
  have p1 : (2 : Nat) ^ 31 = 2147483648 := by decide
  have p2 : (2 : Nat) ^ 23 - 1 = 8388607 := by decide
  rw [p1]
  rw [p2] at h2
  unfold NaN
  rw [hs, hi]
  omega
section
variable {P : Program}
theorem run_nan64 {op : BinOp} (ho : op = .add ∨ op = .sub ∨ op = .mul ∨ op = .quo) (t : TypeId) {x y : Nat} (h : floatBits op .f64 x y = none) (w : World) : ∃ r, (binOp op t (.float .f64 x) (.float .f64 y)).run P w = .ok (.float .f64 r) (w.drewN 1) ∧ NaN .f64 r := by
  refine ⟨_, ?_, nanWord64 (w.tape w.drawn (.nanBits .f64 x y))⟩
  rcases ho with rfl | rfl | rfl | rfl
  · have h' : Ieee.double.add x y = none := h
    simp [binOp, Op.floatArith, FloatKind.format, h']
    rfl
  · have h' : Ieee.double.sub x y = none := h
    simp [binOp, Op.floatArith, FloatKind.format, h']
    rfl
  · have h' : Ieee.double.mul x y = none := h
    simp [binOp, Op.floatArith, FloatKind.format, h']
    rfl
  · have h' : Ieee.double.div x y = none := h
    simp [binOp, Op.floatArith, FloatKind.format, h']
    rfl
theorem run_nan32 {op : BinOp} (ho : op = .add ∨ op = .sub ∨ op = .mul) (t : TypeId) {x y : Nat} (h : floatBits op .f32 x y = none) (w : World) : ∃ r, (binOp op t (.float .f32 x) (.float .f32 y)).run P w = .ok (.float .f32 r) (w.drewN 1) ∧ NaN .f32 r := by
  refine ⟨_, ?_, nanWord32 (w.tape w.drawn (.nanBits .f32 x y))⟩
  rcases ho with rfl | rfl | rfl
  · have h' : Ieee.single.add x y = none := h
    simp [binOp, Op.floatArith, FloatKind.format, h']
    rfl
  · have h' : Ieee.single.sub x y = none := h
    simp [binOp, Op.floatArith, FloatKind.format, h']
    rfl
  · have h' : Ieee.single.mul x y = none := h
    simp [binOp, Op.floatArith, FloatKind.format, h']
    rfl
theorem run_wideNan (src dst : TypeId) {x : Nat} (hs : (P.underlying src).isSome = true) (hd : P.underlying dst = some (.float .f64)) (h : NaN .f32 x) (w : World) : ∃ r, (convert src dst (.float .f32 x)).run P w = .ok (.float .f64 r) (w.drewN 1) ∧ NaN .f64 r := by
  obtain ⟨s, t, e⟩ := h.read
  have e' : FloatKind.f32.decode x = .nan s t := e
  obtain ⟨u, hs'⟩ := Option.isSome_iff_exists.1 hs
  refine ⟨_, ?_, nanWord64 (w.tape w.drawn (.nanConv .f64 x))⟩
  cases u <;> simp [convert, run_underlying hs', run_underlying hd, Conv.floatToFloat, e'] <;> rfl
theorem run_narrowNan (src dst : TypeId) {x : Nat} (hs : (P.underlying src).isSome = true) (hd : P.underlying dst = some (.float .f32)) (h : NaN .f64 x) (w : World) : ∃ r, (convert src dst (.float .f64 x)).run P w = .ok (.float .f32 r) (w.drewN 1) ∧ NaN .f32 r := by
  obtain ⟨s, t, e⟩ := h.read
  have e' : FloatKind.f64.decode x = .nan s t := e
  obtain ⟨u, hs'⟩ := Option.isSome_iff_exists.1 hs
  refine ⟨_, ?_, nanWord32 (w.tape w.drawn (.nanConv .f32 x))⟩
  cases u <;> simp [convert, run_underlying hs', run_underlying hd, Conv.floatToFloat, e'] <;> rfl
end
theorem run_sqrtNan {x : Nat} (h : NaN .f64 x) (w : World) : ∃ r, (callFunc 52 #[.float .f64 x]).run Try.prog w = .ok (.value (.float .f64 r)) (w.drewN 1) ∧ NaN .f64 r := by
  refine ⟨_, ?_, nanWord64 (w.tape w.drawn (.nanBits .f64 x x))⟩
  rw [run_callFunc_extern (P := Try.prog) (f := 52) (fn := Try.f52) (e := Extern.MathSqrt.sqrt) (by kernel_rfl) (by kernel_rfl) (by kernel_rfl) (by kernel_rfl) (by kernel_rfl)]
  change ((match FloatKind.f64.format.sqrt x with | some r => (pure (.float .f64 r) : Sem Value) | none => do pure (.float .f64 (← choose (.nanBits .f64 x x)))).run Try.prog w).andThen _ = _
  rw [h.sqrt]
  rfl
/-- A quotient by zero of what comes of zero. -/
def quoZ (a b c d : Nat) : Option (Nat × Nat × Nat) :=
  wide a fun a => wide b fun b => wide c fun c => wide d fun d =>
  opf .mul a c fun p => opf .mul b (Num.ng64 d) fun q => opf .sub p q fun u => opf .mul a (Num.ng64 d) fun r => opf .mul b c fun s => opf .add r s fun v =>
  opf .mul c c fun g => opf .mul d d fun h => opf .add g h fun e => some (u, v, e)
theorem quoNaN {a b c d u v e : Nat} (h : quoZ a b c d = some (u, v, e)) (h1 : floatBits .quo .f64 u e = none) (h2 : floatBits .quo .f64 v e = none) (w : World) : Calls Try.prog 54 #[.complex .f32 a b, .complex .f32 c d] w fun e w' => ∃ x y m, e = .returned (.complex .f32 x y) ∧ w' = w.drewN m ∧ NaN .f32 x ∧ NaN .f32 y := by
  unfold quoZ wide at h
  obtain ⟨a2, ha, h⟩ := af_some h
  obtain ⟨b2, hb, h⟩ := af_some h
  obtain ⟨c2, hc, h⟩ := af_some h
  obtain ⟨d2, hd, h⟩ := af_some h
  obtain ⟨p, hp, h⟩ := opf_some h
  obtain ⟨q, hq, h⟩ := opf_some h
  obtain ⟨u', hu, h⟩ := opf_some h
  obtain ⟨r, hr, h⟩ := opf_some h
  obtain ⟨s, hs, h⟩ := opf_some h
  obtain ⟨v', hv, h⟩ := opf_some h
  obtain ⟨g, hg, h⟩ := opf_some h
  obtain ⟨i, hi, h⟩ := opf_some h
  obtain ⟨e', he, h⟩ := opf_some h
  simp only [Option.some.injEq, Prod.mk.injEq] at h
  obtain ⟨rfl, rfl, rfl⟩ := h
  have C1 := Lib.hid (parts_w w ha hb)
  have C2 := Lib.hid (parts_w w hc hd)
  have C3 := Lib.hid (times_w w hp hq hu hr hs hv)
  have C4 := Lib.hid (power_w w hc hd hg hi he)
  obtain ⟨r1, k1, n1⟩ := run_nan64 (P := Try.prog) (.inr (.inr (.inr rfl))) 40 h1 w
  obtain ⟨r2, k2, n2⟩ := run_narrowNan (P := Try.prog) 40 31 (by rw [Try.underlying40]; rfl) Try.underlying31 n1 (w.drewN 1)
  obtain ⟨r3, k3, n3⟩ := run_nan64 (P := Try.prog) (.inr (.inr (.inr rfl))) 40 h2 (w.drewN 2)
  obtain ⟨r4, k4, n4⟩ := run_narrowNan (P := Try.prog) 40 31 (by rw [Try.underlying40]; rfl) Try.underlying31 n3 (w.drewN 3)
  have k5 := unary_ng64 d2
  have N2 := Lib.hid n2
  have N4 := Lib.hid n4
  clear ha hb hc hd hp hq hu hr hs hv hg hi he h1 h2 n1 n2 n3 n4
  go_enter Try.func54, Try.ntmps54
  go_wp2_with fail
  refine C1.out.mono ?_
  rintro e w1 ⟨rfl, rfl⟩
  go_wp2_with fail
  refine C2.out.mono ?_
  rintro e w1 ⟨rfl, rfl⟩
  go_wp2_with fail
  refine C3.out.mono ?_
  rintro e w1 ⟨rfl, rfl⟩
  go_wp2_with fail
  refine C4.out.mono ?_
  rintro e w1 ⟨rfl, rfl⟩
  go_wp2
  try go_ret
  exact ⟨r2, r4, _, rfl, rfl, N2.out, N4.out⟩
theorem subNaN {a b c d : Nat} (ha : NaN .f32 a) (hb : NaN .f32 b) (w : World) : Calls Try.prog 26 #[.complex .f32 a b, .complex .f32 c d] w fun e w' => ∃ x y m, e = .returned (.complex .f32 x y) ∧ w' = w.drewN m ∧ NaN .f32 x ∧ NaN .f32 y := by
  obtain ⟨r1, k1, n1⟩ := run_nan32 (P := Try.prog) (.inr (.inl rfl)) 31 (ha.arith .sub (.inr (.inl rfl)) c) w
  obtain ⟨r2, k2, n2⟩ := run_nan32 (P := Try.prog) (.inr (.inl rfl)) 31 (hb.arith .sub (.inr (.inl rfl)) d) (w.drewN 1)
  have N1 := Lib.hid n1
  have N2 := Lib.hid n2
  clear ha hb n1 n2
  go_enter Try.func26, Try.ntmps26
  go_wp2
  try go_ret
  exact ⟨r1, r2, _, rfl, rfl, N1.out, N2.out⟩
theorem partsNaN {a b : Nat} (ha : NaN .f32 a) (hb : NaN .f32 b) (w : World) : Calls Try.prog 53 #[.complex .f32 a b] w fun e w' => ∃ x y m, e = .returned (.tuple #[.float .f64 x, .float .f64 y]) ∧ w' = w.drewN m ∧ NaN .f64 x ∧ NaN .f64 y := by
  obtain ⟨r1, k1, n1⟩ := run_wideNan (P := Try.prog) 31 40 (by rw [Try.underlying31]; rfl) Try.underlying40 ha w
  obtain ⟨r2, k2, n2⟩ := run_wideNan (P := Try.prog) 31 40 (by rw [Try.underlying31]; rfl) Try.underlying40 hb (w.drewN 1)
  have N1 := Lib.hid n1
  have N2 := Lib.hid n2
  clear ha hb n1 n2
  go_enter Try.func53, Try.ntmps53
  go_wp2
  try go_ret2
  exact ⟨r1, r2, _, rfl, rfl, N1.out, N2.out⟩
theorem powerNaN {a b : Nat} (ha : NaN .f32 a) (hb : NaN .f32 b) (w : World) : Calls Try.prog 29 #[.complex .f32 a b] w fun e w' => ∃ x m, e = .returned (.float .f64 x) ∧ w' = w.drewN m ∧ NaN .f64 x := by
  have C1 := Lib.hid (partsNaN ha hb w)
  clear ha hb
  go_enter Try.func29, Try.ntmps29
  go_wp2_with fail
  refine C1.out.mono ?_
  rintro e w1 ⟨x, y, m, rfl, hw, n1, n2⟩
  have HW := Lib.hid hw
  clear hw
  obtain ⟨r1, k1, n3⟩ := run_nan64 (P := Try.prog) (.inr (.inr (.inl rfl))) 40 (n1.arith .mul (.inr (.inr rfl)) x) w1
  obtain ⟨r2, k2, n4⟩ := run_nan64 (P := Try.prog) (.inr (.inr (.inl rfl))) 40 (n2.arith .mul (.inr (.inr rfl)) y) (w1.drewN 1)
  obtain ⟨r3, k3, n5⟩ := run_nan64 (P := Try.prog) (.inl rfl) 40 (n3.arith .add (.inl rfl) r2) (w1.drewN 2)
  have N5 := Lib.hid n5
  clear n1 n2 n3 n4 n5
  go_wp2
  try go_ret
  exact ⟨r3, m + 3, rfl, by rw [HW.out, World.drewN_drewN], N5.out⟩
theorem sqrtNaN {x : Nat} (h : NaN .f64 x) (w : World) : Calls Try.prog 28 #[.float .f64 x] w fun e w' => ∃ y m, e = .returned (.float .f64 y) ∧ w' = w.drewN m ∧ NaN .f64 y := by
  obtain ⟨r, k1, n1⟩ := run_sqrtNan h w
  have N1 := Lib.hid n1
  clear h n1
  go_enter Try.func28, Try.ntmps28
  go_wp2
  try go_ret
  exact ⟨r, _, rfl, rfl, N1.out⟩
theorem longNaN {a b : Nat} (ha : NaN .f32 a) (hb : NaN .f32 b) (w : World) : Calls Try.prog 9 #[.complex .f32 a b] w fun e w' => ∃ x m, e = .returned (.float .f32 x) ∧ w' = w.drewN m ∧ NaN .f32 x := by
  have C1 := Lib.hid (powerNaN ha hb w)
  clear ha hb
  go_enter Try.func9, Try.ntmps9
  go_wp2_with fail
  refine C1.out.mono ?_
  rintro e w1 ⟨x, m, rfl, hw, n1⟩
  have HW := Lib.hid hw
  clear hw
  have C2 := Lib.hid (sqrtNaN n1 w1)
  clear n1
  go_wp2_with fail
  refine C2.out.mono ?_
  rintro e w2 ⟨y, m2, rfl, hw2, n2⟩
  have HW2 := Lib.hid hw2
  clear hw2
  obtain ⟨r3, k3, n3⟩ := run_narrowNan (P := Try.prog) 40 31 (by rw [Try.underlying40]; rfl) Try.underlying31 n2 w2
  have N3 := Lib.hid n3
  clear n2 n3
  go_wp2
  try go_ret
  exact ⟨r3, m + (m2 + 1), rfl, by rw [HW2.out, HW.out, World.drewN_drewN, World.drewN_drewN], N3.out⟩
theorem sizeNaN {a : Nat} (ha : NaN .f32 a) (w : World) : Calls Try.prog 50 #[.float .f32 a] w fun e w' => ∃ x m, e = .returned (.float .f32 x) ∧ w' = w.drewN m ∧ NaN .f32 x := by
  obtain ⟨r1, k1, n1⟩ := run_wideNan (P := Try.prog) 31 40 (by rw [Try.underlying31]; rfl) Try.underlying40 ha w
  have h64 : r1 < 18446744073709551616 := by
    have := n1.2
    have hs : FloatKind.f64.format.signWeight = 9223372036854775808 := by decide
    rw [hs] at this
    omega
  have C1 := Lib.hid (abs_w (w := w.drewN 1) r1 h64)
  obtain ⟨r2, k2, n2⟩ := run_narrowNan (P := Try.prog) 40 31 (by rw [Try.underlying40]; rfl) Try.underlying31 n1.abs (w.drewN 1)
  have N2 := Lib.hid n2
  clear ha n1 n2 h64
  go_enter Try.func50, Try.ntmps50
  go_wp2_with fail
  refine C1.out.mono ?_
  rintro e w1 ⟨rfl, rfl⟩
  go_wp2
  try go_ret
  exact ⟨r2, _, rfl, rfl, N2.out⟩
theorem smallNaN {a b : Nat} (ha : NaN .f32 a) (w : World) : Calls Try.prog 21 #[.complex .f32 a b] w fun e w' => ∃ m, e = .returned (.bool false) ∧ w' = w.drewN m := by
  have C1 := Lib.hid (sizeNaN ha w)
  clear ha
  go_enter Try.func21, Try.ntmps21
  go_wp2_with fail
  refine C1.out.mono ?_
  rintro e w1 ⟨x, m, rfl, rfl, n1⟩
  have k := n1.order 1148846080
  clear n1
  go_wp2
  try go_ret
  exact ⟨m, rfl, rfl⟩
end Go.Proofs.Ytjmidicidgaapaa

namespace Go.Proofs.Ytjmidicidgaapaa.Circ
open Go
open Quick
def phOk (n k : Nat) : Bool :=
  match qbits .quo .f64 (fi (k : Int)) (fi (n : Int)) with
  | none => false
  | some t => decide (t < 18446744073709551616) && calm t && (match fraction t with
    | none => false
    | some f => decide (phaseOf f = some (ph n k)))
def allPh : Bool := (List.range 7).all fun n => (List.range n).all fun k => decide (n < 2) || phOk n k
/-- From zero no step leads on: its quotient is none. -/
def zeroC (n a b : Nat) : Option Bool :=
  match powN a b (n - 2) with
  | none => none
  | some (x, y) => match topC n a b x y with
    | none => none
    | some (p, q) => opg .mul x (fw n) fun s => opg .mul y (fw n) fun t => match quoZ p q s t with
      | none => none
      | some (u, v, e) => some ((qbits .quo .f64 u e).isNone && (qbits .quo .f64 v e).isNone)
def allZero : Bool := (List.range 7).all fun n => decide (n < 2) || (zeroC n 0 0 == some true && zeroC n 0 2147483648 == some true && zeroC n 2147483648 0 == some true && zeroC n 2147483648 2147483648 == some true)
theorem allPh_ok : allPh = true := by decide +kernel
theorem allZero_ok : allZero = true := by decide +kernel
theorem ph_small : ((List.range 7).all fun n => (List.range n).all fun k => decide ((ph n k).1 % 2147483648 ≤ 1065353216) && decide ((ph n k).2 % 2147483648 ≤ 1065353216)) = true := by decide
/-- The numbers that steps lead to. -/
def zs (n a b : Nat) : Nat → Nat × Nat
  | 0 => (a, b)
  | i + 1 => (stepN n (zs n a b i).1 (zs n a b i).2).getD (0, 0)
theorem anyK_true {n a b : Nat} : ∀ j, j ≤ n → anyK n a b j = some true → ∃ k, n - j ≤ k ∧ k < n ∧ nearK n k a b = some true
  | 0, _, h => by cases h
  | j + 1, hj, h => by
    unfold anyK at h
    split at h
    · cases h
    · exact ⟨n - 1 - j, by omega, by omega, by assumption⟩
    · obtain ⟨k, h1, h2, h3⟩ := anyK_true j (by omega) h
      exact ⟨k, by omega, h2, h3⟩
/-- Each root up to the first near one has been looked at. -/
theorem anyK_some {n a b : Nat} : ∀ j, j ≤ n → (anyK n a b j).isSome = true → ∀ k, n - j ≤ k → k < n → (∀ i, n - j ≤ i → i < k → nearK n i a b ≠ some true) → (nearK n k a b).isSome = true
  | 0, _, _ => fun k h1 h2 _ => by omega
  | j + 1, hj, h => fun k h1 h2 h3 => by
    unfold anyK at h
    by_cases hk : k = n - 1 - j
    · subst hk
      split at h
      · cases h
      · rename_i e; rw [e]; rfl
      · rename_i e; rw [e]; rfl
    · have hn := h3 (n - 1 - j) (by omega) (by omega)
      split at h
      · cases h
      · rename_i e; exact absurd e hn
      · exact anyK_some j (by omega) h k (by omega) h2 (fun i hi hi2 => h3 i (by omega) hi2)
theorem anyK_false {n a b : Nat} : ∀ j, j ≤ n → anyK n a b j = some false → ∀ k, n - j ≤ k → k < n → nearK n k a b = some false
  | 0, _, _ => fun k h1 h2 => by omega
  | j + 1, hj, h => fun k h1 h2 => by
    unfold anyK at h
    split at h
    · cases h
    · cases h
    · rename_i e
      by_cases hk : k = n - 1 - j
      · subst hk; exact e
      · exact anyK_false j (by omega) h k (by omega) h2
theorem noneF_all {n a b : Nat} : ∀ j, j ≤ n → noneF n a b j = true → ∀ k, n - j ≤ k → k < n → nearF n k a b = some false
  | 0, _, _ => fun k h1 h2 => by omega
  | j + 1, hj, h => fun k h1 h2 => by
    unfold noneF at h
    split at h
    · rename_i e
      by_cases hk : k = n - 1 - j
      · subst hk; exact e
      · exact noneF_all j (by omega) h k (by omega) h2
    · cases h
end Go.Proofs.Ytjmidicidgaapaa.Circ
namespace Go.Proofs.Ytjmidicidgaapaa
open Go.RowKit
open Num Quick Circ
theorem phasor_ph {n k : Nat} (hn : 2 ≤ n) (hn6 : n ≤ 6) (hk : k < n) : ∃ t, floatBits .quo .f64 (fi (k : Int)) (fi (n : Int)) = some t ∧ ∀ w : World, Calls Try.prog 12 #[.float .f64 t] w fun e w' => e = .returned (.complex .f32 (ph n k).1 (ph n k).2) ∧ w' = w := by
  have h := allPh_ok
  unfold allPh at h
  have h1 := List.all_eq_true.1 (List.all_eq_true.1 h n (List.mem_range.2 (by omega))) k (List.mem_range.2 hk)
  rw [decide_eq_false (by omega : ¬ n < 2), Bool.false_or] at h1
  unfold phOk at h1
  rw [qbits_eq] at h1
  cases e : floatBits .quo .f64 (fi (k : Int)) (fi (n : Int)) with
  | none => rw [e] at h1; cases h1
  | some t =>
    rw [e] at h1
    simp only [Bool.and_eq_true, decide_eq_true_eq] at h1
    obtain ⟨⟨h2, h3⟩, h4⟩ := h1
    cases ef : fraction t with
    | none => rw [ef] at h4; cases h4
    | some f =>
      rw [ef] at h4
      simp only [decide_eq_true_eq] at h4
      exact ⟨t, rfl, fun w => phasor_calls w h2 h3 ef h4⟩
/-- A word up to a bound. -/
theorem word_le {a c : Nat} {C : Rat} (h : a % 2147483648 ≤ c) (hc : c < 2139095040) (hC : rv FloatKind.f32.format c = C) : Fl .f32 a ∧ InR (Num.fv .f32 a) C := by
  have hs : FloatKind.f32.format.signWeight = 2147483648 := by decide
  have hi : FloatKind.f32.format.infRung = 2139095040 := by decide
  refine ⟨by show a % FloatKind.f32.format.signWeight < FloatKind.f32.format.infRung; rw [hs, hi]; omega, ?_⟩
  have hm := rv_mono FloatKind.f32.format h
  have h0 := rv_nonneg FloatKind.f32.format (a % 2147483648)
  rw [hC] at hm
  show InR (val FloatKind.f32.format a) C
  unfold val
  rw [hs]
  unfold InR
  split <;> constructor <;> grind
theorem word_ge {a c : Nat} {C : Rat} (h : c ≤ a % 2147483648) (hC : rv FloatKind.f32.format c = C) (hC0 : 0 ≤ C) : C * C ≤ Num.fv .f32 a * Num.fv .f32 a := by
  have hs : FloatKind.f32.format.signWeight = 2147483648 := by decide
  have hm := rv_mono FloatKind.f32.format h
  rw [hC] at hm
  have h2 : C * C ≤ rv FloatKind.f32.format (a % 2147483648) * rv FloatKind.f32.format (a % 2147483648) := le_sq hC0 hm
  show _ ≤ val FloatKind.f32.format a * val FloatKind.f32.format a
  unfold val
  rw [hs]
  split <;> grind
theorem rv_1000 : rv FloatKind.f32.format 1148846080 = 1000 := by unfold rv p2; decide +kernel
theorem rv_1 : rv FloatKind.f32.format 1065353216 = 1 := by unfold rv p2; decide +kernel
theorem rv_512 : rv FloatKind.f32.format 989855744 = 1 / 512 := by unfold rv p2; decide +kernel
theorem small1_ok {a : Nat} (h : small1 a = true) : Fl .f32 a ∧ InR (Num.fv .f32 a) 1000 ∧ a < 4294967296 := by
  unfold small1 at h
  simp only [Bool.and_eq_true, decide_eq_true_eq] at h
  obtain ⟨h1, h2⟩ := word_le h.2 (by omega) rv_1000
  exact ⟨h1, h2, h.1⟩
theorem ph_ok {n k : Nat} (hn6 : n ≤ 6) (hk : k < n) : (Fl .f32 (ph n k).1 ∧ InR (Num.fv .f32 (ph n k).1) 1) ∧ (Fl .f32 (ph n k).2 ∧ InR (Num.fv .f32 (ph n k).2) 1) := by
  have h := List.all_eq_true.1 (List.all_eq_true.1 ph_small n (List.mem_range.2 (by omega))) k (List.mem_range.2 hk)
  simp only [Bool.and_eq_true, decide_eq_true_eq] at h
  exact ⟨word_le h.1 (by omega) rv_1, word_le h.2 (by omega) rv_1⟩
/-- The comparison with 0.001. -/
abbrev leM (r : Nat) : Bool := FloatKind.f32.format.order r 981668463 == some .lt || FloatKind.f32.format.order r 981668463 == some .eq
/-- A number that is not near to a root. -/
def Far (n k a b : Nat) : Prop := ∀ w : World, Calls Try.prog 26 #[.complex .f32 a b, .complex .f32 (ph n k).1 (ph n k).2] w fun e w' => ∃ x y m, e = .returned (.complex .f32 x y) ∧ w' = w.drewN m ∧
  ∀ w : World, Calls Try.prog 9 #[.complex .f32 x y] w fun e w' => ∃ r m, e = .returned (.float .f32 r) ∧ w' = w.drewN m ∧ leM r = false
/-- A number that is near to a root. -/
def Nigh (n k a b : Nat) : Prop := ∃ x y r, floatBits .sub .f32 a (ph n k).1 = some x ∧ floatBits .sub .f32 b (ph n k).2 = some y ∧ longC x y = some r ∧ leM r = true
theorem far_words {n k a b x y r : Nat} (h1 : floatBits .sub .f32 a (ph n k).1 = some x) (h2 : floatBits .sub .f32 b (ph n k).2 = some y) (hl : ∀ w : World, Calls Try.prog 9 #[.complex .f32 x y] w fun e w' => e = .returned (.float .f32 r) ∧ w' = w) (hr : leM r = false) : Far n k a b := by
  intro w
  refine (subW w h1 h2).mono ?_
  rintro e w' ⟨rfl, rfl⟩
  refine ⟨x, y, 0, rfl, rfl, fun w => ?_⟩
  refine (hl w).mono ?_
  rintro e w' ⟨rfl, rfl⟩
  exact ⟨r, 0, rfl, rfl, hr⟩
theorem c001 : Fl .f32 981668463 ∧ Num.fv .f32 981668463 < 1 / 512 := by
  refine ⟨?_, ?_⟩
  · show (981668463 : Nat) % FloatKind.f32.format.signWeight < FloatKind.f32.format.infRung
    decide +kernel
  · unfold Num.fv val rv p2
    decide +kernel
theorem far_big {n k a b x : Nat} (hn6 : n ≤ 6) (hk : k < n) (ha : small1 a = true) (hb : small1 b = true) (hx : (floatBits .sub .f32 a (ph n k).1 = some x ∨ floatBits .sub .f32 b (ph n k).2 = some x) ∧ 989855744 ≤ x % 2147483648) : Far n k a b := by
  obtain ⟨fa, ia, _⟩ := small1_ok ha
  obtain ⟨fb, ib, _⟩ := small1_ok hb
  obtain ⟨⟨fp, ip⟩, ⟨fq, iq⟩⟩ := ph_ok hn6 hk
  have t : (2000 : Rat) ≤ top := by decide +kernel
  have tm : (1001 : Rat) ≤ mid := by decide +kernel
  obtain ⟨T, eT⟩ : ∃ T : Rat, top = T := ⟨_, rfl⟩
  rw [eT] at t
  obtain ⟨u, u1, u2⟩ := fsub fa fp (by rw [eT]; unfold InR at *; grind) (by rw [eT]; unfold InR at *; grind)
  obtain ⟨v, v1, v2⟩ := fsub fb fq (by rw [eT]; unfold InR at *; grind) (by rw [eT]; unfold InR at *; grind)
  have e1 : ((1001 : Int) : Rat) = 1001 := rfl
  have e2 : ((-1001 : Int) : Rat) = -1001 := rfl
  have iu : InR (Num.fv .f32 u) mid := by
    have h1 := u2.le_int 1001 (by decide) (by rw [e1]; unfold InR at *; grind)
    have h2 := u2.ge_int (-1001) (by decide) (by rw [e2]; unfold InR at *; grind)
    rw [e1] at h1
    rw [e2] at h2
    generalize mid = M at tm
    unfold InR; constructor <;> grind
  have iv : InR (Num.fv .f32 v) mid := by
    have h1 := v2.le_int 1001 (by decide) (by rw [e1]; unfold InR at *; grind)
    have h2 := v2.ge_int (-1001) (by decide) (by rw [e2]; unfold InR at *; grind)
    rw [e1] at h1
    rw [e2] at h2
    generalize mid = M at tm
    unfold InR; constructor <;> grind
  obtain ⟨r, r1, r2⟩ := long_num u2.fin v2.fin iu iv
  have su := rsq_nn (Num.fv .f32 u)
  have sv := rsq_nn (Num.fv .f32 v)
  have key : (1 / 512 : Rat) * (1 / 512) ≤ Num.fv .f32 u * Num.fv .f32 u + Num.fv .f32 v * Num.fv .f32 v := by
    rcases hx.1 with h | h
    · obtain rfl : u = x := Option.some.inj (u1.symm.trans h)
      have := word_ge hx.2 rv_512 (by decide +kernel)
      grind
    · obtain rfl : v = x := Option.some.inj (v1.symm.trans h)
      have := word_ge hx.2 rv_512 (by decide +kernel)
      grind
  have hr : (1 / 512 : Rat) ≤ Num.fv .f32 r := by
    have h512 := rep_frac .f32 1 9 (by decide) (by decide)
    have e : ((1 : Int) : Rat) / ((2 ^ 9 : Nat) : Rat) = 1 / 512 := by decide +kernel
    rw [e] at h512
    exact r2.ge _ h512 (by decide +kernel) key
  refine far_words u1 v1 r1 (not_le_cmp r2.fin c001.1 ?_)
  have := c001.2
  grind
theorem nearK_far {n k a b : Nat} (hn6 : n ≤ 6) (hk : k < n) (hs : smallC a b = true) (h : nearK n k a b = some false) : Far n k a b := by
  unfold smallC at hs
  obtain ⟨ha, hb⟩ := Bool.and_eq_true_iff.1 hs
  unfold nearK at h
  obtain ⟨u, hu, h⟩ := opg_some h
  by_cases c : 989855744 ≤ u % 2147483648
  · exact far_big hn6 hk ha hb ⟨.inl hu, c⟩
  · rw [if_neg (by simpa using c)] at h
    obtain ⟨v, hv, h⟩ := opg_some h
    by_cases c2 : 989855744 ≤ v % 2147483648
    · exact far_big hn6 hk ha hb ⟨.inr hv, c2⟩
    · rw [if_neg (by simpa using c2)] at h
      obtain ⟨l, hl, h⟩ := af_some h
      injection h with h
      rw [le32_eq] at h
      exact far_words hu hv (fun w => LongOf_calls w hl) h
theorem nearK_nigh {n k a b : Nat} (h : nearK n k a b = some true) : Nigh n k a b := by
  unfold nearK at h
  obtain ⟨u, hu, h⟩ := opg_some h
  by_cases c : 989855744 ≤ u % 2147483648
  · rw [if_pos (by simpa using c)] at h; cases h
  · rw [if_neg (by simpa using c)] at h
    obtain ⟨v, hv, h⟩ := opg_some h
    by_cases c2 : 989855744 ≤ v % 2147483648
    · rw [if_pos (by simpa using c2)] at h; cases h
    · rw [if_neg (by simpa using c2)] at h
      obtain ⟨l, hl, h⟩ := af_some h
      injection h with h
      rw [le32_eq] at h
      exact ⟨u, v, l, hu, hv, hl, h⟩
theorem nearF_far {n k a b : Nat} (h : nearF n k a b = some false) : Far n k a b := by
  unfold nearF at h
  obtain ⟨u, hu, h⟩ := opg_some h
  obtain ⟨v, hv, h⟩ := opg_some h
  obtain ⟨l, hl, h⟩ := af_some h
  injection h with h
  rw [le32_eq] at h
  exact far_words hu hv (fun w => LongOf_calls w hl) h
theorem nan_far {n k a b : Nat} (ha : NaN .f32 a) (hb : NaN .f32 b) : Far n k a b := by
  intro w
  refine (subNaN ha hb w).mono ?_
  rintro e w' ⟨x, y, m, rfl, rfl, hx, hy⟩
  refine ⟨x, y, m, rfl, rfl, fun w => ?_⟩
  refine (longNaN hx hy w).mono ?_
  rintro e w' ⟨r, m, rfl, rfl, hr⟩
  refine ⟨r, m, rfl, rfl, ?_⟩
  unfold leM
  rw [hr.order]
  rfl
/-- Whether a number's parts are small, by the program. -/
def Size (a b : Nat) (sm : Bool) : Prop := ∀ w : World, Calls Try.prog 21 #[.complex .f32 a b] w fun e w' => ∃ m, e = .returned (.bool sm) ∧ w' = w.drewN m
theorem size_small {a b : Nat} (h : smallC a b = true) : Size a b true := by
  unfold smallC at h
  obtain ⟨ha, hb⟩ := Bool.and_eq_true_iff.1 h
  obtain ⟨fa, ia, _⟩ := small1_ok ha
  obtain ⟨fb, ib, _⟩ := small1_ok hb
  intro w
  refine (isSmall_num fa fb ia ib w).mono ?_
  rintro e w' ⟨rfl, rfl⟩
  exact ⟨0, rfl, rfl⟩
theorem size_nan {a b : Nat} (ha : NaN .f32 a) : Size a b false := fun w => smallNaN ha w
theorem fin1_big {a : Nat} (h1 : fin1 a = true) (h2 : small1 a = false) : Fl .f32 a ∧ ¬ InR (Num.fv .f32 a) 1000 := by
  have hs : FloatKind.f32.format.signWeight = 2147483648 := by decide
  have hi : FloatKind.f32.format.infRung = 2139095040 := by decide
  unfold fin1 at h1
  unfold small1 at h2
  simp only [Bool.and_eq_true, decide_eq_true_eq] at h1
  have hw : 1148846081 ≤ a % 2147483648 := by
    rw [decide_eq_true h1.1, Bool.true_and, decide_eq_false_iff_not] at h2
    omega
  have hF : Fl .f32 a := by show a % FloatKind.f32.format.signWeight < FloatKind.f32.format.infRung; rw [hs, hi]; exact h1.2
  refine ⟨hF, fun h => ?_⟩
  have hm := rv_mono FloatKind.f32.format hw
  have hb : (1000 : Rat) < rv FloatKind.f32.format 1148846081 := by unfold rv p2; decide +kernel
  have hv : InR (val FloatKind.f32.format a) 1000 := h
  unfold val at hv
  rw [hs] at hv
  unfold InR at hv
  split at hv <;> grind
theorem fin1_small {a : Nat} (h2 : small1 a = true) : Fl .f32 a ∧ InR (Num.fv .f32 a) 1000 := ⟨(small1_ok h2).1, (small1_ok h2).2.1⟩
theorem size_big {a b : Nat} (ha : fin1 a = true) (hb : fin1 b = true) (h : smallC a b = false) : Size a b false := by
  intro w
  have c := c1000
  by_cases s1 : small1 a = true
  · have s2 : small1 b = false := by
      unfold smallC at h
      rw [s1, Bool.true_and] at h
      exact h
    obtain ⟨fa, ia⟩ := fin1_small s1
    obtain ⟨fb, ib⟩ := fin1_big hb s2
    obtain ⟨p, p1, p2_, p3⟩ := size_num fa
    obtain ⟨q, q1, q2, q3⟩ := size_num fb
    have k1 := (le_cmp p2_ c.1 (by rw [p3, c.2]; unfold InR at ia; split <;> grind)).1
    have k2 := not_le_cmp q2 c.1 (by
      rw [q3, c.2]
      apply Rat.not_le.1
      intro hle
      apply ib
      unfold InR
      split at hle <;> constructor <;> grind)
    have P1 := Lib.hid p1
    have Q1 := Lib.hid q1
    clear p1 q1 p2_ p3 q2 q3 fa ia fb ib ha hb h s1 s2 c
    go_enter Try.func21, Try.ntmps21
    go_wp2_with fail
    refine (P1.out _).mono ?_
    rintro e w1 ⟨rfl, hw1⟩
    obtain rfl := hw1.symm
    go_wp2_with fail
    refine (Q1.out _).mono ?_
    rintro e w1 ⟨rfl, hw1⟩
    obtain rfl := hw1.symm
    go_wp2
    try go_ret
    exact ⟨0, by simp [k2], rfl⟩
  · have s2 : small1 a = false := by simpa using s1
    obtain ⟨fa, ia⟩ := fin1_big ha s2
    obtain ⟨p, p1, p2_, p3⟩ := size_num fa
    have k1 := not_le_cmp p2_ c.1 (by
      rw [p3, c.2]
      apply Rat.not_le.1
      intro hle
      apply ia
      unfold InR
      split at hle <;> constructor <;> grind)
    have P1 := Lib.hid p1
    clear p1 p2_ p3 fa ia ha hb h s1 s2 c
    go_enter Try.func21, Try.ntmps21
    go_wp2_with fail
    refine (P1.out _).mono ?_
    rintro e w1 ⟨rfl, hw1⟩
    obtain rfl := hw1.symm
    go_wp2
    try go_ret
    exact ⟨0, by simp, rfl⟩
/-- Where a step leads: to words, or to what is no number. -/
theorem step_zero {n a b : Nat} (hn : 2 ≤ n) (hn6 : n ≤ 6) (hz : (decide (a % 2147483648 = 0) && decide (b % 2147483648 = 0)) = true) (hs : smallC a b = true) (w : World) :
    Calls Try.prog 33 #[.int .i64 (n : Int), .complex .f32 a b] w fun e w' => ∃ x y m, e = .returned (.complex .f32 x y) ∧ w' = w.drewN m ∧ NaN .f32 x ∧ NaN .f32 y := by
  have h := List.all_eq_true.1 (show ((List.range 7).all fun n => decide (n < 2) || (zeroC n 0 0 == some true && zeroC n 0 2147483648 == some true && zeroC n 2147483648 0 == some true && zeroC n 2147483648 2147483648 == some true)) = true from allZero_ok) n (List.mem_range.2 (by omega))
  rw [decide_eq_false (by omega : ¬ n < 2), Bool.false_or] at h
  simp only [Bool.and_eq_true, beq_iff_eq] at h
  unfold smallC at hs
  obtain ⟨ha, hb⟩ := Bool.and_eq_true_iff.1 hs
  have la := (small1_ok ha).2.2
  have lb := (small1_ok hb).2.2
  simp only [Bool.and_eq_true, decide_eq_true_eq] at hz
  have hzc : zeroC n a b = some true := by
    rcases (by omega : a = 0 ∨ a = 2147483648) with rfl | rfl <;> rcases (by omega : b = 0 ∨ b = 2147483648) with rfl | rfl
    · exact h.1.1.1
    · exact h.1.1.2
    · exact h.1.2
    · exact h.2
  unfold zeroC at hzc
  cases e1 : powN a b (n - 2) with
  | none => rw [e1] at hzc; cases hzc
  | some xy =>
    obtain ⟨x, y⟩ := xy
    rw [e1] at hzc
    simp only at hzc
    cases e2 : topC n a b x y with
    | none => rw [e2] at hzc; cases hzc
    | some pq =>
      obtain ⟨p, q⟩ := pq
      rw [e2] at hzc
      simp only at hzc
      obtain ⟨s, h7, hzc⟩ := opg_some hzc
      obtain ⟨t, h8, hzc⟩ := opg_some hzc
      cases e9 : quoZ p q s t with
      | none => rw [e9] at hzc; cases hzc
      | some uve =>
        obtain ⟨u, v, e⟩ := uve
        rw [e9] at hzc
        simp only [Option.some.injEq, Bool.and_eq_true, qbits_eq, Option.isNone_iff_eq_none] at hzc
        unfold topC at e2
        cases e3 : mulC x y a b with
        | none => rw [e3] at e2; cases e2
        | some uv =>
          obtain ⟨u', v'⟩ := uv
          rw [e3] at e2
          simp only at e2
          obtain ⟨m, hm, e2⟩ := opg_some e2
          obtain ⟨k, hk, e2⟩ := opg_some e2
          obtain ⟨p', hp, e2⟩ := opg_some e2
          obtain ⟨q', hq, e2⟩ := opg_some e2
          cases e2
          exact step_walk hn hn6 e1 e3 hm hk hp hq h7 h8 w (quoNaN e9 hzc.1 hzc.2 w) (fun e w' hr => by obtain ⟨x, y, m, rfl, _⟩ := hr; exact ⟨x, y, rfl⟩)
end Go.Proofs.Ytjmidicidgaapaa

namespace Go.Proofs.Ytjmidicidgaapaa
open Go.RowKit
open Num Quick Circ

/-- What is known of the number after s steps. -/
structure Word (n m : Nat) (z : Nat × Nat) (s a b : Nat) : Prop where
  eq : zs n z.1 z.2 s = (a, b)
  run : runC n (m - s) a b = true
  steps : ∀ i, i < s → smallC (zs n z.1 z.2 i).1 (zs n z.1 z.2 i).2 = true ∧ stepN n (zs n z.1 z.2 i).1 (zs n z.1 z.2 i).2 = some (zs n z.1 z.2 (i + 1))
theorem runC_case {n f a b : Nat} (h : runC n f a b = true) : (smallC a b = true ∧ (anyK n a b n).isSome = true) ∨ (smallC a b = false ∧ fin1 a = true ∧ fin1 b = true ∧ noneF n a b n = true) := by
  cases f with
  | zero =>
    unfold runC at h
    by_cases c : smallC a b = true
    · rw [if_pos c] at h; exact .inl ⟨c, h⟩
    · rw [if_neg c] at h
      simp only [Bool.and_eq_true] at h
      exact .inr ⟨by simpa using c, h.1.1, h.1.2, h.2⟩
  | succ f =>
    unfold runC at h
    by_cases c : smallC a b = true
    · rw [if_pos c] at h
      refine .inl ⟨c, ?_⟩
      cases e : anyK n a b n with
      | none => rw [e] at h; cases h
      | some x => rfl
    · rw [if_neg c] at h
      simp only [Bool.and_eq_true] at h
      exact .inr ⟨by simpa using c, h.1.1, h.1.2, h.2⟩
theorem runC_next {n f a b : Nat} (h : runC n (f + 1) a b = true) (hs : smallC a b = true) (hn : ∀ k, k < n → nearK n k a b ≠ some true) : (decide (a % 2147483648 = 0) && decide (b % 2147483648 = 0)) = true ∨ ∃ r : Nat × Nat, stepN n a b = some r ∧ runC n f r.1 r.2 = true := by
  unfold runC at h
  rw [if_pos hs] at h
  cases e : anyK n a b n with
  | none => rw [e] at h; cases h
  | some x =>
    cases x with
    | true =>
      obtain ⟨k, _, h2, h3⟩ := anyK_true n (Nat.le_refl _) e
      exact absurd h3 (hn k h2)
    | false =>
      rw [e] at h
      simp only at h
      by_cases c : (decide (a % 2147483648 = 0) && decide (b % 2147483648 = 0)) = true
      · exact .inl c
      · rw [if_neg c] at h
        cases e2 : stepN n a b with
        | none => rw [e2] at h; cases h
        | some r =>
          rw [e2] at h
          exact .inr ⟨r, rfl, h⟩
theorem runC_fin {n f a b : Nat} (h : runC n f a b = true) : Fl .f32 a ∧ Fl .f32 b := by
  have hs : FloatKind.f32.format.signWeight = 2147483648 := by decide
  have hi : FloatKind.f32.format.infRung = 2139095040 := by decide
  rcases runC_case h with ⟨h1, _⟩ | ⟨_, h2, h3, _⟩
  · unfold smallC at h1
    obtain ⟨ha, hb⟩ := Bool.and_eq_true_iff.1 h1
    exact ⟨(small1_ok ha).1, (small1_ok hb).1⟩
  · unfold fin1 at h2 h3
    simp only [Bool.and_eq_true, decide_eq_true_eq] at h2 h3
    exact ⟨by show a % FloatKind.f32.format.signWeight < FloatKind.f32.format.infRung; rw [hs, hi]; exact h2.2, by show b % FloatKind.f32.format.signWeight < FloatKind.f32.format.infRung; rw [hs, hi]; exact h3.2⟩
/-- The state of the loop: words that are followed, or what is no number. -/
def St (n m : Nat) (z : Nat × Nat) (s a b : Nat) : Prop := Word n m z s a b ∨ (NaN .f32 a ∧ NaN .f32 b)
/-- What is asked at each root: it is far, or it is near (and the words are followed). -/
theorem ask {n m s a b : Nat} {z : Nat × Nat} (hn6 : n ≤ 6) (h : St n m z s a b) : ∃ N : Nat → Bool, (∀ k, k < n → (∀ j, j < k → N j = false) → (N k = false ∧ Far n k a b) ∨ (N k = true ∧ Nigh n k a b)) ∧
    (∀ k, k < n → N k = true → Word n m z s a b ∧ smallC a b = true ∧ nearK n k a b = some true) ∧ (∀ k, k < n → N k = false → Word n m z s a b → nearK n k a b ≠ some true) := by
  rcases h with h | ⟨h1, h2⟩
  · rcases runC_case h.run with ⟨c1, c2⟩ | ⟨c0, c1, c2, c3⟩
    · refine ⟨fun k => decide (nearK n k a b = some true), fun k hk hj => ?_, fun k hk hN => ⟨h, c1, by simpa using hN⟩, fun k hk hN _ => by simpa using hN⟩
      have hsome := anyK_some n (Nat.le_refl _) c2 k (by omega) hk (fun i _ hi => by simpa using hj i hi)
      cases e : nearK n k a b with
      | none => rw [e] at hsome; cases hsome
      | some x =>
        cases x with
        | true => exact .inr ⟨decide_eq_true e, nearK_nigh e⟩
        | false => exact .inl ⟨decide_eq_false (by rw [e]; decide), nearK_far hn6 hk c1 e⟩
    · refine ⟨fun _ => false, fun k hk _ => .inl ⟨rfl, nearF_far (noneF_all n (Nat.le_refl _) c3 k (by omega) hk)⟩, fun k hk hN => (by cases hN), fun k hk _ _ hN => ?_⟩
      have hF := noneF_all n (Nat.le_refl _) c3 k (by omega) hk
      obtain ⟨x, y, r, x1, y1, r1, r2⟩ := nearK_nigh hN
      unfold nearF at hF
      obtain ⟨u, hu, hF⟩ := opg_some hF
      obtain ⟨v, hv, hF⟩ := opg_some hF
      obtain ⟨l, hl, hF⟩ := af_some hF
      injection hF with hF
      rw [le32_eq] at hF
      obtain rfl : x = u := Option.some.inj (x1.symm.trans hu)
      obtain rfl : y = v := Option.some.inj (y1.symm.trans hv)
      obtain rfl : r = l := Option.some.inj (r1.symm.trans hl)
      have : leM r = false := hF
      rw [this] at r2
      cases r2
  · refine ⟨fun _ => false, fun k hk _ => .inl ⟨rfl, nan_far h1 h2⟩, fun k hk hN => (by cases hN), fun k hk _ hw => ?_⟩
    have := (runC_fin hw.run).1
    have h3 : a % FloatKind.f32.format.signWeight < FloatKind.f32.format.infRung := this
    have := h1.1
    omega
/-- Whether the number is small. -/
theorem ask_size {n m s a b : Nat} {z : Nat × Nat} (h : St n m z s a b) : ∃ sm, Size a b sm ∧ (sm = true → Word n m z s a b ∧ smallC a b = true) := by
  rcases h with h | ⟨h1, h2⟩
  · rcases runC_case h.run with ⟨c1, _⟩ | ⟨c0, c1, c2, _⟩
    · exact ⟨true, size_small c1, fun _ => ⟨h, c1⟩⟩
    · exact ⟨false, size_big c1 c2 c0, fun e => by cases e⟩
  · exact ⟨false, size_nan h1, fun e => by cases e⟩
/-- The step. -/
theorem ask_step {n m s a b : Nat} {z : Nat × Nat} (hn : 2 ≤ n) (hn6 : n ≤ 6) (h : Word n m z s a b) (hs : smallC a b = true) (hN : ∀ k, k < n → nearK n k a b ≠ some true) (hm : s < m) (w : World) :
    Calls Try.prog 33 #[.int .i64 (n : Int), .complex .f32 a b] w fun e w' => ∃ x y, e = .returned (.complex .f32 x y) ∧ (∃ k, w' = w.drewN k) ∧ St n m z (s + 1) x y := by
  obtain ⟨f, hf⟩ : ∃ f, m - s = f + 1 := ⟨m - s - 1, by omega⟩
  have hr := h.run
  rw [hf] at hr
  rcases runC_next hr hs hN with hz | ⟨r, h1, h2⟩
  · refine (step_zero hn hn6 hz hs w).mono ?_
    rintro e w' ⟨x, y, k, rfl, rfl, hx, hy⟩
    exact ⟨x, y, rfl, ⟨k, rfl⟩, .inr ⟨hx, hy⟩⟩
  · refine (step_calls hn hn6 h1 w).mono ?_
    rintro e w' ⟨rfl, rfl⟩
    have e1 : zs n z.1 z.2 (s + 1) = r := by
      show (stepN n (zs n z.1 z.2 s).1 (zs n z.1 z.2 s).2).getD (0, 0) = r
      rw [h.eq, h1]
      rfl
    refine ⟨r.1, r.2, rfl, ⟨0, rfl⟩, .inl ⟨e1, ?_, fun i hi => ?_⟩⟩
    · rw [show m - (s + 1) = f by omega]; exact h2
    · rcases Nat.lt_succ_iff_lt_or_eq.1 hi with hi | rfl
      · exact h.steps i hi
      · rw [h.eq, e1]
        exact ⟨hs, h1⟩
theorem drew_below {w w' : World} (h : ∃ k, w' = w.drewN k) : Below w.heap.size w w' := by
  obtain ⟨k, rfl⟩ := h
  exact ⟨rfl, rfl, rfl, Nat.le_refl _, fun _ _ => rfl⟩
theorem isDegree_w (n : Nat) (hn : 2 ≤ n) (hn6 : n ≤ 6) (w : World) : Calls Try.prog 30 #[.int .i64 (n : Int)] w fun e w' => e = .returned (.bool true) ∧ w' = w := by
  have W := Lib.hid (within_w (n : Int) 2 6 w (by omega) (by omega))
  go_enter Try.func30, Try.ntmps30
  go_wp2_with fail
  refine W.out.mono ?_
  rintro e w1 ⟨rfl, rfl⟩
  go_wp2
  try go_ret
  exact ⟨rfl, rfl⟩
/-- RootStep, where the words are followed. -/
theorem RootStep_ok {n a b : Nat} {r : Nat × Nat} (hn : 2 ≤ n) (hn6 : n ≤ 6) (hs : smallC a b = true) (h : stepN n a b = some r) (hr1 : Fl .f32 r.1) (hr2 : Fl .f32 r.2) (w : World) :
    Calls Try.prog 11 #[.int .i64 (n : Int), .complex .f32 a b] w fun e w' => e = .returned (.tuple #[.complex .f32 r.1 r.2, .bool true]) ∧ ∃ k, w' = w.drewN k := by
  have D := Lib.hid (fun w => isDegree_w n hn hn6 w)
  have S := Lib.hid (size_small hs)
  have T := Lib.hid (fun w => step_calls hn hn6 h w)
  have F := Lib.hid (fun w => ifComplex_num hr1 hr2 w)
  clear h hs hr1 hr2
  go_enter Try.func11, Try.ntmps11
  go_wp2_with fail
  refine (D.out _).mono ?_
  rintro e w1 ⟨rfl, hw1⟩
  obtain rfl := hw1.symm
  go_wp2_with fail
  refine (S.out _).mono ?_
  rintro e w2 ⟨m, rfl, hw2⟩
  have HW := Lib.hid hw2
  clear hw2
  go_wp2_with fail
  refine (T.out _).mono ?_
  rintro e w3 ⟨rfl, hw3⟩
  obtain rfl := hw3.symm
  go_wp2_with fail
  refine (F.out _).mono ?_
  rintro e w3 ⟨rfl, hw3⟩
  obtain rfl := hw3.symm
  go_wp2
  go_ret2
  exact ⟨rfl, m, HW.out⟩
end Go.Proofs.Ytjmidicidgaapaa

namespace Go.Proofs.Ytjmidicidgaapaa
open Go.RowKit
open Num Quick Circ

/-- What RootOf's answer tells. -/
structure Found (n m : Nat) (z : Nat × Nat) (k s : Nat) : Prop where
  lt : k < n
  le : s ≤ m
  word : Word n m z s (zs n z.1 z.2 s).1 (zs n z.1 z.2 s).2
  small : smallC (zs n z.1 z.2 s).1 (zs n z.1 z.2 s).2 = true
  near : nearK n k (zs n z.1 z.2 s).1 (zs n z.1 z.2 s).2 = some true
  first : ∀ j, j < k → nearK n j (zs n z.1 z.2 s).1 (zs n z.1 z.2 s).2 ≠ some true
set_option maxRecDepth 100000 in
set_option maxHeartbeats 4000000 in
theorem rootOf_ok (n m : Nat) (z : Nat × Nat) (hn : 2 ≤ n) (hn6 : n ≤ 6) (hm : m ≤ 60) (h : runC n m z.1 z.2 = true) (w : World) :
    Calls Try.prog 31 #[.int .i64 (n : Int), .complex .f32 z.1 z.2, .int .i64 (m : Int)] w fun e w' => ∃ (k s : Nat) (ok : Bool), e = .returned (.tuple #[.int .i64 (k : Int), .int .i64 (s : Int), .bool ok]) ∧ (∃ d, w' = w.drewN d) ∧
      (ok = true → Found n m z k s) ∧ (ok = false → ∀ k, k < n → nearK n k z.1 z.2 ≠ some true) := by
  have W0 : Hid (Word n m z 0 z.1 z.2) := Lib.hid ⟨rfl, h, fun i hi => absurd hi (Nat.not_lt_zero i)⟩
  have PH : Hid (∀ k, k < n → ∃ t, floatBits .quo .f64 (fi (k : Int)) (fi (n : Int)) = some t ∧ ∀ w : World, Calls Try.prog 12 #[.float .f64 t] w fun e w' => e = .returned (.complex .f32 (ph n k).1 (ph n k).2) ∧ w' = w) := Lib.hid fun k hk => phasor_ph hn hn6 hk
  have CN : ∀ w : World, (convert 2 40 (.int .i64 (n : Int))).run Try.prog w = .ok (.float .f64 (fi (n : Int))) w := fun w => run_convert_int_float w _ _ _ _ _ (by rw [Try.underlying2]; rfl) Try.underlying40
  have HN := Lib.hid (show 2 ≤ n ∧ n ≤ 6 from ⟨hn, hn6⟩)
  obtain ⟨z1, z2⟩ := z
  simp only at W0
  clear h
  go_enter Try.func31, Try.ntmps31
  go_wp2
  go_loopw [1, 9] (fun sz ss wr => ∃ (s a b : Nat), ss = .int .i64 (s : Int) ∧ s ≤ m ∧ sz = .complex .f32 a b ∧ Hid (St n m (z1, z2) s a b) ∧ Hid (0 < s → ∀ k, k < n → nearK n k z1 z2 ≠ some true) ∧ Hid (s = 0 → Word n m (z1, z2) 0 a b) ∧ Hid (∃ d, wr = w.drewN d)) (fun _ ss _ => m - (intOf ss).toNat)
  case atStart => exact ⟨0, z1, z2, rfl, Nat.zero_le _, rfl, Lib.hid (.inl W0.out), Lib.hid fun h => absurd h (by omega), Lib.hid fun _ => W0.out, Lib.hid ⟨0, rfl⟩⟩
  case round =>
    obtain ⟨s, a, b, rfl, hs, rfl, ST, NN, Z0, DW⟩ := hrel
    clear W0
    obtain ⟨N, ask1, ask2, ask3⟩ := ask HN.out.2 ST.out
    obtain ⟨sm, sz1, sz2⟩ := ask_size ST.out
    have A1 := Lib.hid ask1
    have A2 := Lib.hid ask2
    have A3 := Lib.hid ask3
    have SZ := Lib.hid sz1
    have SW := Lib.hid sz2
    clear ask1 ask2 ask3 sz1 sz2
    go_wp2
    go_loopw [14] (fun sk wk => ∃ k : Nat, sk = .int .i64 (k : Int) ∧ k ≤ n ∧ Hid (∀ j, j < k → N j = false) ∧ Hid (∃ d, wk = w.drewN d)) (fun sk _ => n - (intOf sk).toNat)
    case atStart => exact ⟨0, rfl, Nat.zero_le _, Lib.hid fun j hj => absurd hj (Nat.not_lt_zero j), DW⟩
    case round =>
      clear DW
      obtain ⟨k, rfl, hk, NJ, DK⟩ := hrel
      by_cases hlt : k < n
      · have hki : (k : Int) < (n : Int) := by omega
        have CK : ∀ w : World, (convert 2 40 (.int .i64 (k : Int))).run Try.prog w = .ok (.float .f64 (fi (k : Int))) w := fun w => run_convert_int_float w _ _ _ _ _ (by rw [Try.underlying2]; rfl) Try.underlying40
        obtain ⟨t, t1, t2⟩ := PH.out k hlt
        have q1 := r64 t1
        have T2 := Lib.hid t2
        clear t1 t2
        go_wp2_with fail
        refine (T2.out _).mono ?_
        rintro e w5 ⟨rfl, hw5⟩
        obtain rfl := hw5.symm
        clear q1 CK T2
        rcases A1.out k hlt NJ.out with ⟨hN, hF⟩ | ⟨hN, hG⟩
        · have HF := Lib.hid hF
          have HNK := Lib.hid hN
          clear hF hN A1 A2 A3 SZ SW
          go_wp2_with fail
          refine (HF.out _).mono ?_
          rintro e w6 ⟨x, y, d, rfl, hw6, hL⟩
          have HL := Lib.hid hL
          have D6 : Hid (∃ d, w6 = w.drewN d) := by
            obtain ⟨d0, e0⟩ := DK.out
            exact Lib.hid ⟨d0 + d, by rw [hw6, e0, World.drewN_drewN]⟩
          clear hL hw6 DK HF
          go_wp2_with fail
          refine (HL.out _).mono ?_
          rintro e w7 ⟨r, d7, rfl, hw7, hr⟩
          have D7 : Hid (∃ d, w7 = w.drewN d) := by
            obtain ⟨d0, e0⟩ := D6.out
            exact Lib.hid ⟨d0 + d7, by rw [hw7, e0, World.drewN_drewN]⟩
          clear hw7 D6 HL
          go_wp2
          go_roundw
          case rel =>
            refine ⟨k + 1, by go_num, by omega, Lib.hid fun j hj => ?_, D7⟩
            rcases Nat.lt_succ_iff_lt_or_eq.1 hj with hj | rfl
            · exact NJ.out j hj
            · exact HNK.out
          case measure => simp [intOf]; omega
        · obtain ⟨x, y, r, x1, y1, r1, hr⟩ := hG
          have C1 := Lib.hid (fun w => subW w x1 y1)
          have C2 := Lib.hid (fun w => LongOf_calls w r1)
          have HNK := Lib.hid hN
          clear x1 y1 r1 hN A1 SZ SW
          go_wp2_with fail
          refine (C1.out _).mono ?_
          rintro e w6 ⟨rfl, hw6⟩
          obtain rfl := hw6.symm
          go_wp2_with fail
          refine (C2.out _).mono ?_
          rintro e w6 ⟨rfl, hw6⟩
          obtain rfl := hw6.symm
          go_wp2
          go_ret3
          obtain ⟨f1, f2, f3⟩ := A2.out k hlt HNK.out
          have ez : zs n z1 z2 s = (a, b) := f1.eq
          refine ⟨k, s, true, rfl, DK.out, fun _ => ⟨hlt, hs, ?_, ?_, ?_, fun j hj => ?_⟩, fun e => by cases e⟩
          · simp only [ez]; exact f1
          · simp only [ez]; exact f2
          · simp only [ez]; exact f3
          · simp only [ez]; exact A3.out j (by omega) (NJ.out j hj) f1
      · obtain rfl : n = k := by omega
        have hki : ¬ (n : Int) < (n : Int) := by omega
        have NN2 : Hid (∀ k, k < n → nearK n k z1 z2 ≠ some true) := Lib.hid fun k hk => by
          by_cases h0 : 0 < s
          · exact NN.out h0 k hk
          · have hw := Z0.out (by omega)
            have e1 : zs n z1 z2 0 = (a, b) := hw.eq
            have e2 : (z1, z2) = (a, b) := e1
            injection e2 with e3 e4
            rw [e3, e4]
            have hs0 : s = 0 := by omega
            rw [hs0] at A3
            exact A3.out k hk (NJ.out k hk) hw
        by_cases hsm : s = m
        · subst hsm
          clear A1 A2 A3 SZ SW PH
          go_wp2
          go_ret3
          exact ⟨0, 0, .inl ⟨rfl, DK.out, NN2.out⟩⟩
        · have hne : ((s : Int) == (m : Int)) = false := by simp; omega
          go_wp2_with fail
          refine (SZ.out _).mono ?_
          rintro e w6 ⟨d, rfl, hw6⟩
          have D6 : Hid (∃ d, w6 = w.drewN d) := by
            obtain ⟨d0, e0⟩ := DK.out
            exact Lib.hid ⟨d0 + d, by rw [hw6, e0, World.drewN_drewN]⟩
          clear hw6 DK SZ
          cases sm with
          | false =>
            clear A1 A2 A3 SW PH
            go_wp2
            go_ret3
            exact ⟨0, 0, false, rfl, D6.out, fun e => (by cases e), fun _ => NN2.out⟩
          | true =>
            obtain ⟨f1, f2⟩ := SW.out rfl
            have SP := Lib.hid (fun w => ask_step hn hn6 f1 f2 (fun k hk => A3.out k hk (NJ.out k hk) f1) (by omega) w)
            clear A1 A2 A3 SW PH f1 f2
            go_wp2_with fail
            refine (SP.out _).mono ?_
            rintro e w7 ⟨x, y, rfl, hd, hst⟩
            have D7 : Hid (∃ d, w7 = w.drewN d) := by
              obtain ⟨d0, e0⟩ := D6.out
              obtain ⟨d1, e1⟩ := hd
              exact Lib.hid ⟨d0 + d1, by rw [e1, e0, World.drewN_drewN]⟩
            have HST := Lib.hid hst
            clear hd hst D6 SP
            go_wp2
            go_roundw
            case rel => exact ⟨s + 1, x, y, by go_num, by omega, rfl, HST, Lib.hid fun _ => NN2.out, Lib.hid fun h => absurd h (by omega), D7⟩
            case measure => simp [intOf]; omega
set_option maxRecDepth 100000 in
theorem RootOf_ok (n m : Nat) (z : Nat × Nat) (hn : 2 ≤ n) (hn6 : n ≤ 6) (hm : m ≤ 60) (hs : smallC z.1 z.2 = true) (h : runC n m z.1 z.2 = true) (w : World) :
    Calls Try.prog 10 #[.int .i64 (n : Int), .complex .f32 z.1 z.2, .int .i64 (m : Int)] w fun e w' => ∃ (k s : Nat) (ok : Bool), e = .returned (.tuple #[.int .i64 (k : Int), .int .i64 (s : Int), .bool ok]) ∧ (∃ d, w' = w.drewN d) ∧
      (ok = true → Found n m z k s) ∧ (ok = false → ∀ k, k < n → nearK n k z.1 z.2 ≠ some true) := by
  have D := Lib.hid (fun w => isDegree_w n hn hn6 w)
  have S := Lib.hid (size_small hs)
  have T := Lib.hid (fun w => areTurns_w m w (by omega))
  have R := Lib.hid (fun w => rootOf_ok n m z hn hn6 hm h w)
  clear hs h
  go_enter Try.func10, Try.ntmps10
  go_wp2_with fail
  refine (D.out _).mono ?_
  rintro e w1 ⟨rfl, hw1⟩
  obtain rfl := hw1.symm
  go_wp2_with fail
  refine (S.out _).mono ?_
  rintro e w2 ⟨d, rfl, hw2⟩
  have HW := Lib.hid hw2
  clear hw2
  go_wp2_with fail
  refine (T.out _).mono ?_
  rintro e w3 ⟨rfl, hw3⟩
  obtain rfl := hw3.symm
  go_wp2_with fail
  refine (R.out _).mono ?_
  rintro e w3 ⟨k, s, ok, rfl, ⟨d3, hw3⟩, h1, h2⟩
  have H1 := Lib.hid h1
  have H2 := Lib.hid h2
  have HW3 := Lib.hid hw3
  clear h1 h2 hw3
  go_wp2
  go_ret3
  exact ⟨k, s, ok, rfl, ⟨d + d3, by rw [HW3.out, HW.out, World.drewN_drewN]⟩, H1.out, H2.out⟩
end Go.Proofs.Ytjmidicidgaapaa

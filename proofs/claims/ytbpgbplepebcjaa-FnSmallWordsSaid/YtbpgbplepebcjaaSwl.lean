/- Walks: mapping back, the reference's and the program's, give the same bits. Conditions: drawn maps, finite numbers of at most 1000. Walks: the reference's quotients and lengths, and mapping back by the program and by the reference, with the same bits. Conditions: drawn maps, finite numbers of at most 1000. Walks: mapping back by the program and by the reference gives the same bits; which numbers are small. Conditions: drawn maps, finite numbers of at most 1000. -/
import Derived.Test.YtbpgbplepebcjaaSwd
import Derived.Test.YtbpgbplepebcjaaNrm
namespace Go.Proofs.Ytbpgbplepebcjaa
open Go.RowKit
open Num Quick

theorem word_split (f : Ieee.Format) {s : Bool} {r : Nat} (hr : r < f.signWeight) : f.word s r % f.signWeight = r ∧ f.word s r / f.signWeight = s.toNat := by
  have hsw : 0 < f.signWeight := Nat.two_pow_pos _
  constructor
  · unfold Ieee.Format.word
    cases s
    · simp only [Bool.false_eq_true, if_false]; exact Nat.mod_eq_of_lt (by omega)
    · simp only [if_true]; rw [Nat.add_mod_left]; exact Nat.mod_eq_of_lt (by omega)
  · unfold Ieee.Format.word
    cases s
    · simp only [Bool.false_eq_true, if_false]; rw [Nat.div_eq_of_lt (by omega)]; rfl
    · simp only [if_true]; rw [Nat.add_div_left _ hsw, Nat.div_eq_of_lt (by omega)]; rfl
theorem xor_word (f : Ieee.Format) {n : Nat} (hn : f.signWeight = 2 ^ n) {s : Bool} {r : Nat} (hr : r < f.signWeight) : f.word s r ^^^ 2 ^ n = f.word (!s) r := by
  obtain ⟨a1, a2⟩ := word_split f (s := s) hr
  obtain ⟨b1, b2⟩ := word_split f (s := !s) hr
  have e1 : (f.word s r ^^^ 2 ^ n) % f.signWeight = f.word s r % f.signWeight := by
    rw [hn, Nat.xor_mod_two_pow, Nat.mod_self, Nat.xor_zero]
  have e2 : (f.word s r ^^^ 2 ^ n) / f.signWeight = (f.word s r / f.signWeight) ^^^ 1 := by
    rw [hn, Nat.xor_div_two_pow, Nat.div_self (Nat.two_pow_pos n)]
  rw [← Nat.div_add_mod (f.word s r ^^^ 2 ^ n) f.signWeight, ← Nat.div_add_mod (f.word (!s) r) f.signWeight, e1, e2, a1, a2, b1, b2]
  cases s <;> rfl
theorem conv_near {x r : Nat} {s : Bool} {m : Nat} {p : Int} (hr : FloatKind.f32.format.read x = .number s m p) (h : qwide x = some r) : r = FloatKind.f64.format.nearest s m p := by
  rw [qwide_eq] at h
  unfold floatToFloatBits at h
  rw [if_neg (by decide)] at h
  unfold FloatKind.decode FloatKind.encode at h
  rw [hr] at h
  have h' : (if (FloatKind.f64.format.read (FloatKind.f64.format.nearest s m p)).isInfinity = true then none else some (FloatKind.f64.format.nearest s m p)) = some r := h
  split at h'
  · cases h'
  · exact (Option.some.inj h').symm
theorem wide_ng {d D : Nat} (hd : Fl .f32 d) (hl : d < 4294967296) (h : qwide d = some D) : qwide (ng32 d) = some (ng64 D) := by
  obtain ⟨hg, _, hgl⟩ := ng32_num hd hl
  have r1 := read_num FloatKind.f32.format (x := d) hd
  have r2 := read_num FloatKind.f32.format (x := ng32 d) hg
  have hn : FloatKind.f32.format.signWeight = 2 ^ 31 := rfl
  have e1 : (ng32 d) % FloatKind.f32.format.signWeight = d % FloatKind.f32.format.signWeight := by
    show (d ^^^ 2 ^ 31) % _ = _
    rw [hn, Nat.xor_mod_two_pow, Nat.mod_self, Nat.xor_zero]
  have e2 : (ng32 d) / FloatKind.f32.format.signWeight = (d / FloatKind.f32.format.signWeight) ^^^ 1 := by
    show (d ^^^ 2 ^ 31) / _ = _
    rw [hn, Nat.xor_div_two_pow, Nat.div_self (Nat.two_pow_pos 31)]
  have hq : d / FloatKind.f32.format.signWeight < 2 := by rw [Nat.div_lt_iff_lt_mul (by decide)]; exact hl
  have e3 : ((ng32 d) / FloatKind.f32.format.signWeight % 2 == 1) = !(d / FloatKind.f32.format.signWeight % 2 == 1) := by
    rw [e2]
    generalize d / FloatKind.f32.format.signWeight = q at hq
    rcases (show q = 0 ∨ q = 1 by omega) with e | e <;> rw [e] <;> rfl
  rw [e1, e3] at r2
  obtain ⟨D', k1, k2, k3, k4⟩ := fwide hd
  obtain rfl : D = D' := Option.some.inj (h.symm.trans k1)
  obtain ⟨R, R1, R2, R3, R4⟩ := fwide hg
  have n1 := conv_near r1 h
  have n2 := conv_near r2 R1
  rw [Rnd.nearest_rung] at n1 n2
  rw [R1, n2, n1]
  congr 1
  refine (xor_word FloatKind.f64.format (n := 63) rfl ?_).symm
  refine Nat.lt_of_le_of_lt ?_ (Rnd.inf_lt FloatKind.f64.format)
  unfold Rnd.rungP
  split
  · exact Nat.zero_le _
  · exact Nat.min_le_right _ _
end Go.Proofs.Ytbpgbplepebcjaa
namespace Go.Proofs.Ytbpgbplepebcjaa
open Go.RowKit
open Num Quick
attribute [local go_sem] run_store_fl run_store_cx

theorem unary_ngS32 (b : Nat) : Op.unary .neg (.float .f32 b) = pure (.float .f32 (ng32 b)) := rfl
/-- The length of a number, the program's and the reference's. -/
theorem long_both {a b : Nat} (ha : Fl .f32 a) (hb : Fl .f32 b) (ia : InR (Num.fv .f32 a) mid) (ib : InR (Num.fv .f32 b) mid) :
    ∃ r, (∀ w : World, Calls Try.prog 55 #[.complex .f32 a b] w fun e w' => e = .returned (.float .f32 r) ∧ w' = w) ∧ (∀ w : World, Calls Try.prog 61 #[.complex .f32 a b] w fun e w' => e = .returned (.float .f32 r) ∧ w' = w) ∧ IsRoot FloatKind.f32.format (Num.fv .f32 a * Num.fv .f32 a + Num.fv .f32 b * Num.fv .f32 b) r := by
  obtain ⟨x, y, p, q, u, s, r, h1, h2, h3, h4, h5, h6, h7, h8⟩ := flong ha hb ia ib
  have S1 := Lib.hid (fun w => sqrt_w w h6)
  have k1 := rNarrow h7
  have H8 := Lib.hid h8
  have C1 := Lib.hid (fun w => power_w w h1 h2 h3 h4 h5)
  have g1 := rWide h1
  have g2 := rWide h2
  have g3 := r64 h3
  have g4 := r64 h4
  have g5 := r64 h5
  clear h1 h2 h3 h4 h5 h6 h7 h8 ha hb ia ib
  refine ⟨r, fun w => ?_, fun w => ?_, H8.out⟩
  · clear g1 g2 g3 g4 g5 H8
    go_enter Try.func55, Try.ntmps55
    go_wp2_with fail
    refine (C1.out _).mono ?_
    rintro e w1 ⟨rfl, rfl⟩
    go_wp2_with fail
    refine (S1.out _).mono ?_
    rintro e w1 ⟨rfl, rfl⟩
    go_wp2
    go_ret
    exact ⟨rfl, rfl⟩
  · have P1 : ∀ w : World, Calls Try.prog 94 #[.complex .f32 a b] w fun e w' => e = .returned (.float .f64 u) ∧ w' = w := by
      intro w
      clear S1 C1 H8
      go_enter Try.func94, Try.ntmps94
      go_wp2
      go_ret
      exact ⟨rfl, rfl⟩
    have N1 : ∀ w : World, Calls Try.prog 93 #[.float .f64 s] w fun e w' => e = .returned (.float .f32 r) ∧ w' = w := by
      intro w
      clear S1 C1 H8 P1
      go_enter Try.func93, Try.ntmps93
      go_wp2
      go_ret
      exact ⟨rfl, rfl⟩
    have P1 := Lib.hid P1
    have N1 := Lib.hid N1
    clear g1 g2 g3 g4 g5 H8 C1
    go_enter Try.func61, Try.ntmps61
    go_wp2_with fail
    refine (P1.out _).mono ?_
    rintro e w1 ⟨rfl, rfl⟩
    go_wp2_with fail
    refine (S1.out _).mono ?_
    rintro e w1 ⟨rfl, rfl⟩
    go_wp2_with fail
    refine (N1.out _).mono ?_
    rintro e w1 ⟨rfl, rfl⟩
    go_wp2
    go_ret
    exact ⟨rfl, rfl⟩
/-- The quotient of two numbers, the program's and the reference's. -/
theorem quot_both {a b c d : Nat} (ha : Fl .f32 a) (hb : Fl .f32 b) (hc : Fl .f32 c) (hd : Fl .f32 d) (hdl : d < 4294967296) (ia : InR (Num.fv .f32 a) 1024) (ib : InR (Num.fv .f32 b) 1024) (ic : InR (Num.fv .f32 c) (1 / 2)) (id : InR (Num.fv .f32 d) (1 / 2))
    (hn : 1 / 64 ≤ Num.fv .f32 c * Num.fv .f32 c + Num.fv .f32 d * Num.fv .f32 d) :
    ∃ x y, (∀ w : World, Calls Try.prog 52 #[.complex .f32 a b, .complex .f32 c d] w fun e w' => e = .returned (.complex .f32 x y) ∧ w' = w) ∧
      (∀ w : World, Calls Try.prog 103 #[.complex .f32 a b, .complex .f32 c d] w fun e w' => e = .returned (.complex .f32 x y) ∧ w' = w) ∧ Fl .f32 x ∧ Fl .f32 y ∧ y < 4294967296 ∧ InR (Num.fv .f32 x) 65536 ∧ InR (Num.fv .f32 y) 65536 := by
  have hm : (1 / 2 : Rat) ≤ mid := by decide +kernel
  obtain ⟨a', a1, a2, a3, a4⟩ := fwide ha
  obtain ⟨b', b1, b2, b3, b4⟩ := fwide hb
  obtain ⟨c', d', p2_, q2_, n, c1, d1, n1, n2, n3, n4, n5, n6⟩ := fpower hc hd (in_mono ic hm) (in_mono id hm)
  obtain ⟨cc, cc1, c2, c3, c4⟩ := fwide hc
  obtain ⟨dd, dd1, d2, d3, d4⟩ := fwide hd
  obtain rfl : c' = cc := Option.some.inj (c1.symm.trans cc1)
  obtain rfl : d' = dd := Option.some.inj (d1.symm.trans dd1)
  obtain ⟨g1, g2, g3⟩ := ng64_num d2 d3
  have hdn := wide_ng hd hdl d1
  have hnd : Fl .f32 (ng32 d) ∧ Num.fv .f32 (ng32 d) = -Num.fv .f32 d := ⟨(ng32_num hd hdl).1, (ng32_num hd hdl).2.1⟩
  have m0 : (0 : Rat) ≤ 1024 := by decide
  have e5 : (1024 : Rat) * (1 / 2) = 512 := by decide +kernel
  have mt : (1048576 : Rat) ≤ top := by decide +kernel
  have iac := prod_in ia ic m0
  have ibd := prod_in ib id m0
  have iad := prod_in ia id m0
  have ibc := prod_in ib ic m0
  rw [e5] at iac ibd iad ibc
  unfold InR at iac ibd iad ibc
  obtain ⟨p, pa, pb, pc⟩ := fmul_wide ha hc a2 c2 a4 c4 (by unfold InR; grind)
  obtain ⟨q, q1, q2, q3⟩ := fmul_wide hb hnd.1 b2 g1 b4 (by rw [g2, hnd.2, d4]) (by rw [hnd.2]; unfold InR; grind)
  obtain ⟨r, r1, r2, r3⟩ := fmul_wide ha hnd.1 a2 g1 a4 (by rw [g2, hnd.2, d4]) (by rw [hnd.2]; unfold InR; grind)
  obtain ⟨s, s1, s2, s3⟩ := fmul_wide hb hc b2 c2 b4 c4 (by unfold InR; grind)
  rw [hnd.2] at q3 r3
  obtain ⟨u, u1, u2⟩ := fsub pb q2 (by grind) (by grind)
  obtain ⟨v, v1, v2⟩ := fadd r2 s2 (by grind) (by grind)
  have B10 : p2 10 = 1024 := by decide +kernel
  have B16 : p2 16 = 65536 := by decide +kernel
  have hu := u2.within 10 (by decide) (by decide) (by rw [B10]; grind) (by rw [B10]; grind)
  have hv := v2.within 10 (by decide) (by decide) (by rw [B10]; grind) (by rw [B10]; grind)
  rw [B10] at hu hv
  have hnn : 1 / 64 ≤ Num.fv .f64 n := by
    have hr := rep_frac .f64 1 6 (by decide) (by decide)
    have e : ((1 : Int) : Rat) / ((2 ^ 6 : Nat) : Rat) = 1 / 64 := by decide +kernel
    rw [e] at hr
    exact n4.ge _ hr hn
  have hn0 : Num.fv .f64 n ≠ 0 := by grind
  have dv : ∀ t : Rat, t ≤ 1024 → -1024 ≤ t → InR (t / Num.fv .f64 n) 65536 := by
    intro t h1 h2
    obtain ⟨Q, eQ⟩ : ∃ Q, t / Num.fv .f64 n = Q := ⟨_, rfl⟩
    have eQ2 : Q * Num.fv .f64 n = t := by rw [← eQ, Rat.div_mul_cancel hn0]
    rw [eQ]
    have hp : (0 : Rat) < Num.fv .f64 n := by grind
    constructor
    · by_cases c : Q ≤ 65536
      · exact c
      · exfalso
        have := Rat.mul_pos (show 0 < Q - 65536 by grind) hp
        grind
    · by_cases c : -65536 ≤ Q
      · exact c
      · exfalso
        have := Rat.mul_pos (show 0 < -65536 - Q by grind) hp
        grind
  have iq1 := dv _ hu.1 hu.2
  have iq2 := dv _ hv.1 hv.2
  unfold InR at iq1 iq2
  obtain ⟨x', x1, x2⟩ := fdiv u2.fin n4.fin hn0 (by grind) (by grind)
  obtain ⟨y', y1, y2⟩ := fdiv v2.fin n4.fin hn0 (by grind) (by grind)
  have hx := x2.within 16 (by decide) (by decide) (by rw [B16]; grind) (by rw [B16]; grind)
  have hy := y2.within 16 (by decide) (by decide) (by rw [B16]; grind) (by rw [B16]; grind)
  rw [B16] at hx hy
  obtain ⟨x, x3, x4⟩ := fnarrow x2.fin (by grind) (by grind)
  obtain ⟨y, y3, y4⟩ := fnarrow y2.fin (by grind) (by grind)
  have hx2 := x4.within 16 (by decide) (by decide) (by rw [B16]; grind) (by rw [B16]; grind)
  have hy2 := y4.within 16 (by decide) (by decide) (by rw [B16]; grind) (by rw [B16]; grind)
  rw [B16] at hx2 hy2
  refine ⟨x, y, fun w => ?_, fun w => ?_, x4.fin, y4.fin, y4.lt, hx2, hy2⟩
  · have C1 := Lib.hid (fun w => parts_w w a1 b1)
    have C2 := Lib.hid (fun w => parts_w w c1 d1)
    have C3 := Lib.hid (fun w => times_w w pa q1 u1 r1 s1 v1)
    have C4 := Lib.hid (fun w => power_w w c1 d1 n1 n2 n3)
    have k1 := r64 x1
    have k2 := r64 y1
    have k3 := rNarrow x3
    have k4 := rNarrow y3
    have k5 := unary_ng64 d'
    clear a1 b1 c1 d1 cc1 dd1 pa q1 u1 r1 s1 v1 n1 n2 n3 n4 n5 n6 x1 y1 x2 y2 x3 x4 y3 y4 u2 v2 hu hv hx hy iq1 iq2 a2 a3 a4 b2 b3 b4 c2 c3 c4 d2 d3 d4 g1 g2 g3 pb pc q2 q3 r2 r3 s2 s3 iac ibd iad ibc hx2 hy2 dv hdn hnd ia ib ic id ha hb hc hd hn hnn
    go_enter Try.func52, Try.ntmps52
    go_wp2_with fail
    refine (C1.out _).mono ?_
    rintro e w1 ⟨rfl, rfl⟩
    go_wp2_with fail
    refine (C2.out _).mono ?_
    rintro e w1 ⟨rfl, rfl⟩
    go_wp2_with fail
    refine (C3.out _).mono ?_
    rintro e w1 ⟨rfl, rfl⟩
    go_wp2_with fail
    refine (C4.out _).mono ?_
    rintro e w1 ⟨rfl, rfl⟩
    go_wp2
    go_ret
    exact ⟨rfl, rfl⟩
  · have k1 := r64 x1
    have k2 := r64 y1
    have k3 := rNarrow x3
    have k4 := rNarrow y3
    have k5 := unary_ngS32 d
    have j1 := rWide a1
    have j2 := rWide b1
    have j3 := rWide c1
    have j4 := rWide d1
    have j5 := rWide hdn
    have m1 := r64 pa
    have m2 := r64 q1
    have m3 := r64 u1
    have m4 := r64 r1
    have m5 := r64 s1
    have m6 := r64 v1
    have m7 := r64 n1
    have m8 := r64 n2
    have m9 := r64 n3
    clear a1 b1 c1 d1 cc1 dd1 pa q1 u1 r1 s1 v1 n1 n2 n3 n4 n5 n6 x1 y1 x2 y2 x3 x4 y3 y4 u2 v2 hu hv hx hy iq1 iq2 a2 a3 a4 b2 b3 b4 c2 c3 c4 d2 d3 d4 g1 g2 g3 pb pc q2 q3 r2 r3 s2 s3 iac ibd iad ibc hx2 hy2 dv hdn hnd ia ib ic id ha hb hc hd hn hnn
    go_enter Try.func103, Try.ntmps103
    go_wp2
    go_ret
    exact ⟨rfl, rfl⟩
end Go.Proofs.Ytbpgbplepebcjaa
namespace Go.Proofs.Ytbpgbplepebcjaa
open Go.RowKit
open Num Quick
attribute [local go_sem] run_store_fl run_store_cx

/-- What maps back: the program's and the reference's bits. -/
structure BackB (x : Sm) (z r : Nat × Nat) : Prop where
  im : ∀ w : World, Calls Try.prog 46 #[smallV x.a x.b x.c x.d x.fl x.s, .complex .f32 z.1 z.2] w fun e w' => e = .returned (.complex .f32 r.1 r.2) ∧ Below w.heap.size w w'
  sp : ∀ (w : World) (b o : Nat), w.cell? ⟨b, o, none⟩ = some (.complex .f32 x.a x.b) → w.cell? ⟨b, o + 1, none⟩ = some (.complex .f32 x.c x.d) → w.cell? ⟨b, o + 2, none⟩ = some (.bool x.fl) →
    Calls Try.prog 75 #[.pointer (some ⟨b, o, none⟩), .complex .f32 z.1 z.2] w fun e w' => e = .returned (.complex .f32 r.1 r.2) ∧ ∃ m, w' = w.drewN m
  f1 : Fl .f32 r.1
  f2 : Fl .f32 r.2
  i1 : InR (Num.fv .f32 r.1) 65536
  i2 : InR (Num.fv .f32 r.2) 65536
theorem conj_s (a b : Nat) (w : World) : Calls Try.prog 104 #[.complex .f32 a b] w fun e w' => e = .returned (.complex .f32 a (ng32 b)) ∧ w' = w := by
  have k5 := unary_ngS32 b
  go_enter Try.func104, Try.ntmps104
  go_wp2
  go_ret
  exact ⟨rfl, rfl⟩
theorem subtract_wS {a b c d x y : Nat} (h1 : floatBits .sub .f32 a c = some x) (h2 : floatBits .sub .f32 b d = some y) (w : World) : Calls Try.prog 53 #[.complex .f32 a b, .complex .f32 c d] w fun e w' => e = .returned (.complex .f32 x y) ∧ w' = w := by
  have k1 := r32 h1
  have k2 := r32 h2
  have k3 := rCSub h1 h2
  clear h1 h2
  go_enter Try.func53, Try.ntmps53
  go_wp2
  go_ret
  exact ⟨rfl, rfl⟩
set_option maxRecDepth 100000 in
set_option maxHeartbeats 1000000 in
theorem sback_w {a b c d zr zi x y u v : Nat} (fl : Bool) (h1 : ∀ w : World, (binOp .sub 26 (.complex .f32 zr zi) (.complex .f32 c d)).run Try.prog w = .ok (.complex .f32 x y) w)
    (h2 : ∀ w : World, Calls Try.prog 103 #[.complex .f32 x y, .complex .f32 a b] w fun e w' => e = .returned (.complex .f32 u v) ∧ w' = w) (w : World) (g o : Nat)
    (c0 : w.cell? ⟨g, o, none⟩ = some (.complex .f32 a b)) (c1 : w.cell? ⟨g, o + 1, none⟩ = some (.complex .f32 c d)) (c2 : w.cell? ⟨g, o + 2, none⟩ = some (.bool fl)) :
    Calls Try.prog 75 #[.pointer (some ⟨g, o, none⟩), .complex .f32 zr zi] w fun e w' => e = .returned (.complex .f32 u (flipN fl v)) ∧ ∃ m, w' = w.drewN m := by
  have A1 := Lib.hid h2
  have CC := Lib.hid (fun w => conj_s u v w)
  clear h2
  cases fl
  · go_enter Try.func75, Try.ntmps75
    go_wp2
    go_quiet (first | (go_at_call 103; exact Calls.quiet_of_same (A1.out _)))
    go_wp2
    go_ret
    exact ⟨rfl, _, rfl⟩
  · go_enter Try.func75, Try.ntmps75
    go_wp2
    go_quiet (first | (go_at_call 103; exact Calls.quiet_of_same (A1.out _)))
    go_wp2_with fail
    refine (CC.out _).mono ?_
    rintro e w1 ⟨rfl, rfl⟩
    go_wp2
    go_ret
    exact ⟨rfl, _, rfl⟩
theorem eight_sq {N : Nat} {x : Sm} (hx : x.ok N) : 1 / 64 ≤ Num.fv .f32 x.a * Num.fv .f32 x.a + Num.fv .f32 x.b * Num.fv .f32 x.b := by
  have a8 := hx.a1
  have k1 := Rat.mul_nonneg (show 0 ≤ Num.fv .f32 x.a - 1 / 8 by grind) (show 0 ≤ Num.fv .f32 x.a - 1 / 8 by grind)
  have k2 := rsq_nn (Num.fv .f32 x.b)
  grind
theorem back_both {N : Nat} {x : Sm} {z : Nat × Nat} (hx : x.ok N) (h1 : Fl .f32 z.1) (h2 : Fl .f32 z.2) (i1 : InR (Num.fv .f32 z.1) 1000) (i2 : InR (Num.fv .f32 z.2) 1000) : ∃ r, BackB x z r := by
  have ic := one_of hx.c
  have id := one_of hx.d
  have mt : (1024 : Rat) ≤ top := by decide +kernel
  have B10 : p2 10 = 1024 := by decide +kernel
  unfold InR at i1 i2 ic id
  obtain ⟨p, p1, p2'⟩ := fsub h1 hx.c.fin (by grind) (by grind)
  obtain ⟨q, q1, q2⟩ := fsub h2 hx.d.fin (by grind) (by grind)
  have hp := p2'.within 10 (by decide) (by decide) (by rw [B10]; grind) (by rw [B10]; grind)
  have hq := q2.within 10 (by decide) (by decide) (by rw [B10]; grind) (by rw [B10]; grind)
  rw [B10] at hp hq
  obtain ⟨u, v, Q1, Q2, u1, v1, v2, iu, iv⟩ := quot_both p2'.fin q2.fin hx.a.fin hx.b.fin hx.b.lt hp hq (half_of hx.a) (half_of hx.b) (eight_sq hx)
  obtain ⟨ff, fe, fl'⟩ := flipN_num x.fl v1 v2
  refine ⟨(u, flipN x.fl v), back_w x.fl (subtract_wS p1 q1) Q1, fun w b o c0 c1 c2 => sback_w x.fl (rCSub p1 q1) Q2 w b o c0 c1 c2, u1, ff, iu, ?_⟩
  show InR (Num.fv .f32 (flipN x.fl v)) 65536
  rw [fe]
  unfold InR at iv ⊢
  split <;> constructor <;> grind
/-- Both parts are at most 1000. -/
def smallP (z : Nat × Nat) : Prop := InR (Num.fv .f32 z.1) 1000 ∧ InR (Num.fv .f32 z.2) 1000
instance (x B : Rat) : Decidable (InR x B) := inferInstanceAs (Decidable (_ ∧ _))
instance (z : Nat × Nat) : Decidable (smallP z) := inferInstanceAs (Decidable (_ ∧ _))
theorem small_dec (z : Nat × Nat) : decide (smallP z) = (decide (InR (Num.fv .f32 z.1) 1000) && decide (InR (Num.fv .f32 z.2) 1000)) := by
  rw [Bool.eq_iff_iff]
  simp only [Bool.and_eq_true, decide_eq_true_eq]
  exact Iff.rfl
theorem c1000n : Fl .f32 3296329728 ∧ Num.fv .f32 3296329728 = -1000 := by
  refine ⟨?_, ?_⟩
  · show (3296329728 : Nat) % FloatKind.f32.format.signWeight < FloatKind.f32.format.infRung
    decide +kernel
  · unfold Num.fv val rv p2
    decide +kernel
theorem bound_val {a : Nat} (h : Fl .f32 a) (w : World) : Calls Try.prog 102 #[.float .f32 a] w fun e w' => e = .returned (.bool (decide (InR (Num.fv .f32 a) 1000))) ∧ w' = w := by
  obtain ⟨c1, c2⟩ := c1000
  obtain ⟨n1, n2⟩ := c1000n
  by_cases hlo : -1000 ≤ Num.fv .f32 a
  · have q1 : (FloatKind.f32.format.order a 3296329728 == some .gt || FloatKind.f32.format.order a 3296329728 == some .eq) = true := by
      by_cases e : Num.fv .f32 a = -1000
      · rw [cmp_eq' h n1 (by rw [n2, e])]; decide
      · rw [cmp_gt' h n1 (by rw [n2]; grind)]; decide
    by_cases hhi : Num.fv .f32 a ≤ 1000
    · have q2 := (le_cmp h c1 (by rw [c2]; exact hhi)).1
      have hD : decide (InR (Num.fv .f32 a) 1000) = true := decide_eq_true ⟨hhi, hlo⟩
      rw [hD]
      clear hD
      rw [Bool.or_eq_true] at q1 q2
      rcases q1 with q1 | q1 <;> rcases q2 with q2 | q2
      all_goals
        go_enter Try.func102, Try.ntmps102
        go_wp2
        go_ret
        exact ⟨ret_b (by first | rfl | simp_all), rfl⟩
    · have q2 := not_le_cmp h c1 (by rw [c2]; grind)
      have hD : decide (InR (Num.fv .f32 a) 1000) = false := decide_eq_false (fun hh => hhi hh.1)
      rw [hD]
      clear hD
      rw [Bool.or_eq_true] at q1
      obtain ⟨q2, q3⟩ := Bool.or_eq_false_iff.1 q2
      rcases q1 with q1 | q1
      all_goals
        go_enter Try.func102, Try.ntmps102
        go_wp2
        go_ret
        exact ⟨ret_b (by first | rfl | simp_all), rfl⟩
  · have q1 : (FloatKind.f32.format.order a 3296329728 == some .gt) = false ∧ (FloatKind.f32.format.order a 3296329728 == some .eq) = false := by
      rw [cmp_lt' h n1 (by rw [n2]; grind)]; decide
    have hD : decide (InR (Num.fv .f32 a) 1000) = false := decide_eq_false (fun hh => hlo hh.2)
    rw [hD]
    clear hD
    obtain ⟨q1, q2⟩ := q1
    go_enter Try.func102, Try.ntmps102
    go_wp2
    go_ret
    exact ⟨ret_b (by first | rfl | simp_all), rfl⟩
theorem ssmall_val {z : Nat × Nat} (f1 : Fl .f32 z.1) (f2 : Fl .f32 z.2) (w : World) : Calls Try.prog 73 #[.complex .f32 z.1 z.2] w fun e w' => e = .returned (.bool (decide (smallP z))) ∧ w' = w := by
  have B1 := Lib.hid (fun w => bound_val f1 w)
  have B2 := Lib.hid (fun w => bound_val f2 w)
  rw [small_dec]
  generalize decide (InR (Num.fv .f32 z.1) 1000) = p at *
  generalize decide (InR (Num.fv .f32 z.2) 1000) = q at *
  go_enter Try.func73, Try.ntmps73
  go_wp2_with fail
  refine (B1.out _).mono ?_
  rintro e w1 ⟨rfl, rfl⟩
  cases p
  · go_wp2
    go_ret
    exact ⟨rfl, rfl⟩
  · go_wp2_with fail
    refine (B2.out _).mono ?_
    rintro e w1 ⟨rfl, rfl⟩
    go_wp2
    go_ret
    exact ⟨rfl, rfl⟩
theorem isSmall_val {z : Nat × Nat} (f1 : Fl .f32 z.1) (f2 : Fl .f32 z.2) (w : World) : Calls Try.prog 43 #[.complex .f32 z.1 z.2] w fun e w' => e = .returned (.bool (decide (smallP z))) ∧ w' = w := by
  obtain ⟨x, x1, x2, x3⟩ := size_num f1
  obtain ⟨y, y1, y2, y3⟩ := size_num f2
  obtain ⟨c1, c2⟩ := c1000
  have X1 := Lib.hid x1
  have Y1 := Lib.hid y1
  have hx : (FloatKind.f32.format.order x 1148846080 == some .lt || FloatKind.f32.format.order x 1148846080 == some .eq) = decide (InR (Num.fv .f32 z.1) 1000) := by
    by_cases h : InR (Num.fv .f32 z.1) 1000
    · rw [decide_eq_true h]
      refine (le_cmp x2 c1 ?_).1
      rw [x3, c2]
      unfold InR at h
      split <;> grind
    · rw [decide_eq_false h]
      refine not_le_cmp x2 c1 ?_
      rw [x3, c2]
      unfold InR at h
      split <;> grind
  have hy : (FloatKind.f32.format.order y 1148846080 == some .lt || FloatKind.f32.format.order y 1148846080 == some .eq) = decide (InR (Num.fv .f32 z.2) 1000) := by
    by_cases h : InR (Num.fv .f32 z.2) 1000
    · rw [decide_eq_true h]
      refine (le_cmp y2 c1 ?_).1
      rw [y3, c2]
      unfold InR at h
      split <;> grind
    · rw [decide_eq_false h]
      refine not_le_cmp y2 c1 ?_
      rw [y3, c2]
      unfold InR at h
      split <;> grind
  rw [small_dec]
  clear x1 x2 x3 y1 y2 y3 c1 c2
  generalize decide (InR (Num.fv .f32 z.1) 1000) = p at *
  generalize decide (InR (Num.fv .f32 z.2) 1000) = q at *
  cases p
  · obtain ⟨a1, a2⟩ := Bool.or_eq_false_iff.1 hx
    clear hx hy
    go_enter Try.func43, Try.ntmps43
    go_wp2_with fail
    refine (X1.out _).mono ?_
    rintro e w1 ⟨rfl, rfl⟩
    go_wp2
    go_ret
    exact ⟨ret_b (by first | rfl | simp_all), rfl⟩
  · rw [Bool.or_eq_true] at hx
    cases q
    · obtain ⟨b1, b2⟩ := Bool.or_eq_false_iff.1 hy
      clear hy
      rcases hx with a1 | a1
      all_goals
        go_enter Try.func43, Try.ntmps43
        go_wp2_with fail
        refine (X1.out _).mono ?_
        rintro e w1 ⟨rfl, rfl⟩
        go_wp2_with fail
        refine (Y1.out _).mono ?_
        rintro e w1 ⟨rfl, rfl⟩
        go_wp2
        go_ret
        exact ⟨ret_b (by first | rfl | simp_all), rfl⟩
    · rw [Bool.or_eq_true] at hy
      rcases hx with a1 | a1 <;> rcases hy with b1 | b1
      all_goals
        go_enter Try.func43, Try.ntmps43
        go_wp2_with fail
        refine (X1.out _).mono ?_
        rintro e w1 ⟨rfl, rfl⟩
        go_wp2_with fail
        refine (Y1.out _).mono ?_
        rintro e w1 ⟨rfl, rfl⟩
        go_wp2
        go_ret
        exact ⟨ret_b (by first | rfl | simp_all), rfl⟩
end Go.Proofs.Ytbpgbplepebcjaa

/- Walk: BallOf: a ball that no map leads out of, nearly. Conditions: lists as the reference draws them. -/
import Derived.Test.YtbpgbplepebcjaaSwd
import Derived.Test.YtbpgbplepebcjaaNrm
namespace Go.Proofs.Ytbpgbplepebcjaa
open Go.RowKit
open Num Quick
attribute [local go_sem] run_store_fl run_store_cx

structure BallS (L : List Sm) (i S T : Nat) : Prop where
  fS : Fl .f32 S
  fT : Fl .f32 T
  S0 : 0 ≤ Num.fv .f32 S
  S1 : Num.fv .f32 S ≤ 3 / 2
  T0 : 0 ≤ Num.fv .f32 T
  T1 : Num.fv .f32 T ≤ 3 / 4
  all : ∀ j, j < i → Le2 (Num.fv .f32 (L.getD j noSm).c) (Num.fv .f32 (L.getD j noSm).d) (Num.fv .f32 S + p2 (-23)) ∧ Le2 (Num.fv .f32 (L.getD j noSm).a) (Num.fv .f32 (L.getD j noSm).b) (Num.fv .f32 T + p2 (-24))
theorem ball_start (L : List Sm) : BallS L 0 0 0 := by
  have e : Num.fv .f32 0 = 0 := c0.2
  refine ⟨c0.1, c0.1, by rw [e]; grind, by rw [e]; decide +kernel, by rw [e]; grind, by rw [e]; decide +kernel, fun j h => absurd h (by omega)⟩
theorem ball_step {L : List Sm} {N i S T : Nat} (hx : (L.getD i noSm).ok N) (h : BallS L i S T) :
    ∃ l m S' T', (∀ w : World, Calls Try.prog 55 #[.complex .f32 (L.getD i noSm).c (L.getD i noSm).d] w fun e w' => e = .returned (.float .f32 l) ∧ w' = w) ∧
      (∀ w : World, Calls Try.prog 55 #[.complex .f32 (L.getD i noSm).a (L.getD i noSm).b] w fun e w' => e = .returned (.float .f32 m) ∧ w' = w) ∧
      (∀ ts t, ∀ w : World, (Builtin.max_ ts t #[.float .f32 S, .float .f32 l]).run Try.prog w = .ok (.float .f32 S') w) ∧
      (∀ ts t, ∀ w : World, (Builtin.max_ ts t #[.float .f32 T, .float .f32 m]).run Try.prog w = .ok (.float .f32 T') w) ∧ BallS L (i + 1) S' T' := by
  have ic := one_of hx.c
  have id := one_of hx.d
  have ia := half_of hx.a
  have ib := half_of hx.b
  have t1 : (1 : Rat) ≤ mid := by decide +kernel
  have t2 : (1 / 2 : Rat) ≤ mid := by decide +kernel
  obtain ⟨l, l1, _, l2⟩ := long_num hx.c.fin hx.d.fin (in_mono ic t1) (in_mono id t1)
  obtain ⟨m, m1, _, m2⟩ := long_num hx.a.fin hx.b.fin (in_mono ia t2) (in_mono ib t2)
  have c1 := abs_sq ic.1 ic.2
  have d1 := abs_sq id.1 id.2
  have a1 := abs_sq ia.1 ia.2
  have b1 := abs_sq ib.1 ib.2
  have c0' := rsq_nn (Num.fv .f32 (L.getD i noSm).c)
  have d0' := rsq_nn (Num.fv .f32 (L.getD i noSm).d)
  have a0' := rsq_nn (Num.fv .f32 (L.getD i noSm).a)
  have b0' := rsq_nn (Num.fv .f32 (L.getD i noSm).b)
  have p1 : p2 1 * p2 1 = 4 := by decide +kernel
  have p0 : p2 0 * p2 0 = 1 := by decide +kernel
  have nl := (root_near32 l2 1 (by decide) (by decide) (by grind) (by rw [p1]; grind)).1
  have nm := (root_near32 m2 0 (by decide) (by decide) (by grind) (by rw [p0]; grind)).1
  have q1 : (3 / 2 : Rat) * (3 / 2) = 9 / 4 := by decide +kernel
  have q2 : (3 / 4 : Rat) * (3 / 4) = 9 / 16 := by decide +kernel
  have r1 : Rep FloatKind.f32.format (3 / 2) := by
    have r := rep_frac .f32 3 1 (by decide) (by decide)
    have e : ((3 : Int) : Rat) / ((2 ^ 1 : Nat) : Rat) = 3 / 2 := by decide +kernel
    rwa [e] at r
  have r2 : Rep FloatKind.f32.format (3 / 4) := by
    have r := rep_frac .f32 3 2 (by decide) (by decide)
    have e : ((3 : Int) : Rat) / ((2 ^ 2 : Nat) : Rat) = 3 / 4 := by decide +kernel
    rwa [e] at r
  have ul : Num.fv .f32 l ≤ 3 / 2 := l2.le _ r1 (by decide +kernel) (by rw [q1]; grind)
  have um : Num.fv .f32 m ≤ 3 / 4 := m2.le _ r2 (by decide +kernel) (by rw [q2]; grind)
  have g1 := p2_pos (-23)
  have g2 := p2_pos (-24)
  have l0 : 0 ≤ Num.fv .f32 l := l2.nonneg
  have m0 : 0 ≤ Num.fv .f32 m := m2.nonneg
  obtain ⟨S', S1, S2, S3, MS⟩ := fmax_num h.fS l2.fin
  obtain ⟨T', T1, T2, T3, MT⟩ := fmax_num h.fT m2.fin
  have h1 := h.S0
  have h2 := h.S1
  have h3 := h.T0
  have h4 := h.T1
  refine ⟨l, m, S', T', l1, m1, MS, MT, ?_, ?_, ?_, ?_, ?_, ?_, fun j hj => ?_⟩
  · rcases S1 with e | e <;> rw [e]
    · exact h.fS
    · exact l2.fin
  · rcases T1 with e | e <;> rw [e]
    · exact h.fT
    · exact m2.fin
  · grind
  · rcases S1 with e | e <;> rw [e] <;> assumption
  · grind
  · rcases T1 with e | e <;> rw [e] <;> assumption
  · rcases Nat.lt_or_eq_of_le (Nat.le_of_lt_succ hj) with c | c
    · have := h.all j c
      exact ⟨this.1.mono (by grind), this.2.mono (by grind)⟩
    · rw [c]
      have k1 : Le2 (Num.fv .f32 (L.getD i noSm).c) (Num.fv .f32 (L.getD i noSm).d) (Num.fv .f32 l + p2 (-23)) := ⟨by grind, nl⟩
      have k2 : Le2 (Num.fv .f32 (L.getD i noSm).a) (Num.fv .f32 (L.getD i noSm).b) (Num.fv .f32 m + p2 (-24)) := ⟨by grind, nm⟩
      exact ⟨k1.mono (by grind), k2.mono (by grind)⟩
/-- No map leads out of the ball, nearly. -/
structure BallB (L : List Sm) (N B : Nat) : Prop where
  fB : Fl .f32 B
  B0 : 0 ≤ Num.fv .f32 B
  B8 : Num.fv .f32 B ≤ 8
  all : ∀ j, j < N → ∃ Tm Sh, Le2 (Num.fv .f32 (L.getD j noSm).a) (Num.fv .f32 (L.getD j noSm).b) Tm ∧ Le2 (Num.fv .f32 (L.getD j noSm).c) (Num.fv .f32 (L.getD j noSm).d) Sh ∧ Tm ≤ 1 ∧ Sh ≤ 2 ∧ Tm * Num.fv .f32 B + Sh ≤ Num.fv .f32 B + 1 / 131072
theorem ball_end {L : List Sm} {N S T : Nat} (h : BallS L N S T) : ∃ t B, floatBits .sub .f32 1065353216 T = some t ∧ floatBits .quo .f32 S t = some B ∧ BallB L N B := by
  have h1 := h.S0
  have h2 := h.S1
  have h3 := h.T0
  have h4 := h.T1
  have e1 := c1.2
  have k24 : p2 (-24) = 1 / 16777216 := by decide +kernel
  have k23 : p2 (-23) = 1 / 8388608 := by decide +kernel
  have k21 : p2 (3 - 24) = 1 / 2097152 := by decide +kernel
  have k24' : p2 (0 - 24) = 1 / 16777216 := by decide +kernel
  have k0 : p2 0 = 1 := by decide +kernel
  have k3 : p2 3 = 8 := by decide +kernel
  have t1 : (1 : Rat) ≤ top := by decide +kernel
  have t8 : (8 : Rat) ≤ top := by decide +kernel
  obtain ⟨t, t2, t3⟩ := fsub c1.1 h.fT (by rw [e1]; grind) (by rw [e1]; grind)
  rw [e1] at t3
  have n := t3.near32 0 (by decide) (by decide) (by rw [k0]; grind) (by rw [k0]; grind)
  rw [k24'] at n
  have ht : 1 / 5 ≤ Num.fv .f32 t := by grind
  have ht0 : 0 < Num.fv .f32 t := by grind
  obtain ⟨Q, eQ⟩ : ∃ Q, Num.fv .f32 S / Num.fv .f32 t = Q := ⟨_, rfl⟩
  have eQ2 : Q * Num.fv .f32 t = Num.fv .f32 S := by rw [← eQ, Rat.div_mul_cancel (by grind)]
  have Q0 : 0 ≤ Q := by
    by_cases c : 0 ≤ Q
    · exact c
    · exfalso
      have := Rat.mul_pos (show 0 < -Q by grind) ht0
      grind
  have Q8 : Q ≤ 15 / 2 := by
    by_cases c : Q ≤ 15 / 2
    · exact c
    · exfalso
      have := Rat.mul_pos (show 0 < Q - 15 / 2 by grind) ht0
      grind
  obtain ⟨B, B2, B3⟩ := fdiv h.fS t3.fin (by grind) (by rw [eQ]; grind) (by rw [eQ]; grind)
  rw [eQ] at B3
  have nB := B3.near32 3 (by decide) (by decide) (by rw [k3]; grind) (by rw [k3]; grind)
  rw [k21] at nB
  refine ⟨t, B, t2, B2, B3.fin, ?_, by grind, fun j hj => ?_⟩
  · exact B3.ge_int 0 (by decide) Q0
  · obtain ⟨s1, s2⟩ := h.all j hj
    rw [k23] at s1
    rw [k24] at s2
    refine ⟨_, _, s2, s1, by grind, by grind, ?_⟩
    have m1 := Rat.mul_le_mul_of_nonneg_left n.1 Q0
    have m2 := Rat.mul_le_mul_of_nonneg_left nB.1 h3
    have m3 := Rat.mul_le_mul_of_nonneg_left h4 (show (0 : Rat) ≤ 1 / 2097152 by grind)
    grind
set_option maxRecDepth 100000 in
set_option maxHeartbeats 4000000 in
theorem ballOf_w (L : List Sm) (N : Nat) (A : Option Addr) (c : Nat) (w : World) (hL : L.length = N) (hN : N = 1 ∨ N = 2 ∨ N = 4) (hok : ∀ x ∈ L, x.ok N) (hR : Rd w w.heap.size 4 A N (smCells L)) :
    Calls Try.prog 25 #[.slice A N c] w fun e w' => ∃ B : Nat, e = .returned (.tuple #[.float .f32 B, .bool true]) ∧ BallB L N B ∧ Below w.heap.size w w' := by
  have AS := Lib.hid (areSmalls_ok L N A c w hL hN hok hR)
  obtain ⟨b, off, rfl, hbb, hcell⟩ := hR.2 (by omega)
  have HC := Lib.hid hcell
  have ST := Lib.hid (fun i (hi : i < N) S T (hs : BallS L i S T) => ball_step (hok (L.getD i noSm) (List.mem_of_getElem? (getS (by rw [hL]; exact hi)))) hs)
  have GS := Lib.hid (fun d (hd : d < N) => smCells_get L d _ (getS (by rw [hL]; exact hd)))
  have hN4 : N ≤ 4 := by omega
  clear hL hN hok hR hcell
  go_enter Try.func25, Try.ntmps25
  go_wp2_with fail
  refine AS.out.mono ?_
  rintro e w1 ⟨rfl, hb1⟩
  have B1 := Lib.hid hb1
  clear hb1 AS
  go_wp2
  go_loopw [4, 5, 7, 13] (fun s4 s5 _ s13 wr => ∃ i S T : Nat, s13 = .int .i64 (i : Int) ∧ i ≤ N ∧ s4 = .float .f32 S ∧ s5 = .float .f32 T ∧ Hid (BallS L i S T) ∧ Hid (Below w.heap.size w wr)) (fun _ _ _ s13 _ => N - (intOf s13).toNat)
  case atStart => exact ⟨0, 0, 0, rfl, Nat.zero_le _, rfl, rfl, Lib.hid (ball_start L), B1⟩
  case round =>
    obtain ⟨i, S, T, rfl, hi, rfl, rfl, HS, HB⟩ := hrel
    clear B1
    by_cases hlt : i < N
    · have hiI : (i : Int) < (N : Int) := Int.ofNat_lt.mpr hlt
      obtain ⟨l, m, S', T', C1, C2, M1, M2, hs⟩ := ST.out i hlt S T HS.out
      have C1 := Lib.hid C1
      have C2 := Lib.hid C2
      have HS' := Lib.hid hs
      obtain ⟨g0, g1, g2, g3⟩ := GS.out i hlt
      clear hs HS
      generalize L.getD i noSm = x at *
      obtain ⟨xa, xb, xc, xd, xf, xs⟩ := x
      simp only at g0 g1 g2 g3 C1 C2
      have d0 := (HB.out.cell (p := ⟨b, off + i * 4, none⟩) hbb).trans (HC.out _ _ g0)
      have d1 := (HB.out.cell (p := ⟨b, off + i * 4 + 1, none⟩) hbb).trans (HC.out _ _ g1)
      have d2 := (HB.out.cell (p := ⟨b, off + i * 4 + 2, none⟩) hbb).trans (HC.out _ _ g2)
      have d3 := (HB.out.cell (p := ⟨b, off + i * 4 + 3, none⟩) hbb).trans (HC.out _ _ g3)
      clear g0 g1 g2 g3
      have B3 := Lib.hid (HB.out.alloc HB.out.size (.cells #[.complex .f32 xa xb, .complex .f32 xc xd, .bool xf, .float .f32 xs] 29))
      go_wp2_with fail
      refine (C1.out _).mono ?_
      rintro e w5 ⟨rfl, hw5⟩
      obtain rfl := hw5.symm
      go_wp2_with fail
      refine (C2.out _).mono ?_
      rintro e w6 ⟨rfl, hw6⟩
      obtain rfl := hw6.symm
      go_wp2
      go_roundw
      case rel => exact ⟨i + 1, S', T', by go_num, by omega, rfl, rfl, HS', B3⟩
      case measure => simp [intOf]; omega
    · obtain rfl : i = N := by omega
      obtain ⟨t, B, t1, t2, t3⟩ := ball_end HS.out
      have D1 := r32 t1
      have D2 := r32 t2
      have FN := Lib.hid (fun w => ifNumber_num t3.fB w)
      have HBB := Lib.hid t3
      clear t1 t2 t3 HS
      go_wp2_with fail
      refine (FN.out _).mono ?_
      rintro e w5 ⟨rfl, hw5⟩
      obtain rfl := hw5.symm
      go_wp2
      go_ret2
      exact ⟨B, rfl, HBB.out, HB.out⟩
end Go.Proofs.Ytbpgbplepebcjaa

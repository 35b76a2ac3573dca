/- Walks: the reference's look at lists of small maps. Conditions: lists as the reference draws them. -/
import Derived.Test.YtbpgbplepebcjaaSwm
namespace Go.Proofs.Ytbpgbplepebcjaa
open Go.RowKit
open Num Quick
attribute [local go_sem] run_store_fl run_store_cx

theorem sshare_ok {a : Nat} (ha : Fl .f32 a) (h0 : 0 ≤ Num.fv .f32 a) (h1 : Num.fv .f32 a ≤ 1) (w : World) : Calls Try.prog 119 #[.float .f32 a] w fun e w' => e = .returned (.bool true) ∧ w' = w := by
  have q1 : (FloatKind.f32.format.order a 0 == some .gt || FloatKind.f32.format.order a 0 == some .eq) = true := by
    by_cases c : 0 < Num.fv .f32 a
    · rw [cmp_gt' ha c0.1 (by rw [c0.2]; exact c)]; decide
    · rw [cmp_eq' ha c0.1 (by rw [c0.2]; grind)]; decide
  have q2 := (le_cmp ha c1.1 (by rw [c1.2]; exact h1)).1
  rw [Bool.or_eq_true] at q1 q2
  rcases q1 with q1 | q1 <;> rcases q2 with q2 | q2
  all_goals
    go_enter Try.func119, Try.ntmps119
    go_wp2
    go_ret
    exact ⟨ret_b (by first | rfl | simp_all), rfl⟩
set_option maxRecDepth 100000 in
theorem ssmallOne_ok {N : Nat} {x : Sm} (hN : 1 ≤ N) (hx : x.ok N) (w : World) (g o : Nat) (d0 : w.cell? ⟨g, o, none⟩ = some (.complex .f32 x.a x.b)) (d1 : w.cell? ⟨g, o + 1, none⟩ = some (.complex .f32 x.c x.d)) (d3 : w.cell? ⟨g, o + 3, none⟩ = some (.float .f32 x.s)) :
    Calls Try.prog 101 #[.pointer (some ⟨g, o, none⟩)] w fun e w' => e = .returned (.bool true) ∧ w' = w := by
  have ho := hx.okSmall hN
  have k : (1 : Rat) ≤ 1000 := by decide
  have m1 : (1 : Rat) ≤ mid := by decide +kernel
  have S1 := Lib.hid (fun w => ssmall_val (z := (x.a, x.b)) ho.fa ho.fb w)
  rw [decide_eq_true (show smallP (x.a, x.b) from ⟨in_mono ho.ia k, in_mono ho.ib k⟩)] at S1
  have S2 := Lib.hid (fun w => ssmall_val (z := (x.c, x.d)) ho.fc ho.fd w)
  rw [decide_eq_true (show smallP (x.c, x.d) from ⟨ho.ic, ho.id⟩)] at S2
  have S3 := Lib.hid (fun w => sshare_ok ho.fs ho.s0 ho.s1 w)
  obtain ⟨r, _, r1, r2⟩ := long_both ho.fa ho.fb (in_mono ho.ia m1) (in_mono ho.ib m1)
  have hr : Num.fv .f32 r ≤ 3 / 4 := by
    have hrep := rep_frac .f32 3 2 (by decide) (by decide)
    have e : ((3 : Int) : Rat) / ((2 ^ 2 : Nat) : Rat) = 3 / 4 := by decide +kernel
    rw [e] at hrep
    exact r2.le _ hrep (by decide +kernel) (by have := ho.ab; have e2 : (3 : Rat) / 4 * (3 / 4) = 9 / 16 := by decide +kernel
                                               grind)
  have hlt := (lt_cmp r2.fin c1.1 (by rw [c1.2]; grind)).1
  have L1 := Lib.hid r1
  clear r1 r2 hr ho hx
  go_enter Try.func101, Try.ntmps101
  go_wp2_with fail
  refine (S1.out _).mono ?_
  rintro e w1 ⟨rfl, hw1⟩
  obtain rfl := hw1.symm
  go_wp2_with fail
  refine (S2.out _).mono ?_
  rintro e w1 ⟨rfl, hw1⟩
  obtain rfl := hw1.symm
  go_wp2_with fail
  refine (L1.out _).mono ?_
  rintro e w1 ⟨rfl, hw1⟩
  obtain rfl := hw1.symm
  go_wp2_with fail
  refine (S3.out _).mono ?_
  rintro e w1 ⟨rfl, hw1⟩
  obtain rfl := hw1.symm
  go_wp2
  go_ret
  simp
set_option maxRecDepth 100000 in
set_option maxHeartbeats 4000000 in
theorem sare_ok (L : List Sm) (N : Nat) (A : Option Addr) (c : Nat) (w : World) (hL : L.length = N) (hN : N = 1 ∨ N = 2 ∨ N = 4) (hok : ∀ x ∈ L, x.ok N) (hR : Rd w w.heap.size 4 A N (smCells L)) :
    Calls Try.prog 72 #[.slice A N c] w fun e w' => e = .returned (.bool true) ∧ w' = w := by
  have hN4 : N ≤ 4 := by omega
  have hN1 : 1 ≤ N := by omega
  obtain ⟨b, off, rfl, hbb, hcell⟩ := hR.2 (by omega)
  have HC := Lib.hid hcell
  have HOK := Lib.hid hok
  have HL := Lib.hid hL
  have HN := Lib.hid hN
  clear hcell hok hL hN hR
  go_enter Try.func72, Try.ntmps72
  go_wp2
  go_loop [4, 16] (fun ss si => ∃ (i sm : Nat), ss = .float .f32 sm ∧ si = .int .i64 (i : Int) ∧ i ≤ N ∧ Hid (GF 2 (4 * i) sm) ∧ Hid (Num.fv .f32 sm * (N : Rat) = (i : Rat))) (fun _ si => N - (intOf si).toNat)
  case atStart =>
    refine ⟨0, 0, rfl, rfl, by omega, ⟨c0.1, by decide, ?_⟩, ?_⟩
    · rw [c0.2]; exact ⟨0, by decide +kernel, by decide, by decide⟩
    · unfold Hid; rw [c0.2]; exact Rat.zero_mul _
  case round =>
    obtain ⟨i, sm, rfl, rfl, hi, HG, HV⟩ := hrel
    by_cases hk : i < N
    · have hiI : (i : Int) < (N : Int) := Int.ofNat_lt.mpr hk
      obtain ⟨x, hx⟩ : ∃ x, L[i]? = some x := ⟨_, List.getElem?_eq_getElem (by have := HL.out; omega)⟩
      obtain ⟨g0, g1, g2, g3⟩ := smCells_get L i x hx
      have d0 := HC.out _ _ g0
      have d1 := HC.out _ _ g1
      have d3 : w.cell? ⟨b, off + i * 4 + 3, none⟩ = some (.float .f32 x.s) := HC.out _ _ g3
      have hxo : x.ok N := HOK.out x (List.mem_of_getElem? hx)
      have V := Lib.hid (ssmallOne_ok hN1 hxo w b (off + i * 4) d0 d1 d3)
      have hsum := HG.out.gr.add (hxo.s.gr)
      have hi4 : 4 * (i : Int) + 4 ≤ 16 := by omega
      have tt : InR (Num.fv .f32 sm + Num.fv .f32 x.s) top := in_top (in_lowM (hsum.bound (C := 1000) (by omega)))
      obtain ⟨sm', e1, e2⟩ := fadd HG.out.fin hxo.s.fin tt.1 tt.2
      have hg' := FR.gf e2 hsum (by omega) (by omega)
      have q1 := r32 e1
      have HG' : Hid (GF 2 (4 * ((i + 1 : Nat) : Int)) sm') := hg'.1.mono (by omega)
      have HV' : Hid (Num.fv .f32 sm' * (N : Rat) = ((i + 1 : Nat) : Rat)) := by
        unfold Hid
        have h1 := HV.out
        have h2 := hxo.s1
        have h3 : ((i + 1 : Nat) : Rat) = (i : Rat) + 1 := by rw [Rat.natCast_add]; rfl
        rw [hg'.2, h3]
        grind
      clear g0 g1 g2 g3 hx hxo e1 e2 hg' hsum tt HG HV d0 d1
      go_wp2_with fail
      refine V.out.mono ?_
      rintro e w1 ⟨rfl, hw1⟩
      obtain rfl := hw1.symm
      go_wp2
      go_round
      case rel => exact ⟨i + 1, sm', rfl, by go_num, by omega, HG', HV'⟩
      case measure => simp [intOf]; omega
    · obtain rfl : i = N := by omega
      have hv1 : Num.fv .f32 sm = 1 := by
        have h1 := HV.out
        have h2 : (i : Rat) ≠ 0 := by
          have := Rat.natCast_pos.2 (show 0 < i by omega)
          grind
        have h3 : (Num.fv .f32 sm - 1) * (i : Rat) = 0 := by grind
        rcases Rat.mul_eq_zero.1 h3 with h4 | h4
        · grind
        · exact absurd h4 h2
      have t0 : (0 : Rat) ≤ top := by decide +kernel
      obtain ⟨d, e1, e2⟩ := fsub HG.out.fin c1.1 (by rw [hv1, c1.2]; grind) (by rw [hv1, c1.2]; grind)
      rw [hv1, c1.2] at e2
      have z0 : (1 : Rat) - 1 = 0 := by decide +kernel
      rw [z0] at e2
      have ed : Num.fv .f32 d = 0 := e2.num 0 0 (by decide +kernel) (by decide) (by decide)
      have q1 := r32 e1
      have kp : 0 < Num.fv .f32 981668463 := by
        unfold Num.fv val rv p2
        decide +kernel
      have kn : Fl .f32 3129152111 ∧ Num.fv .f32 3129152111 < 0 := by
        refine ⟨?_, ?_⟩
        · show (3129152111 : Nat) % FloatKind.f32.format.signWeight < FloatKind.f32.format.infRung
          decide +kernel
        · unfold Num.fv val rv p2
          decide +kernel
      have h1 : FloatKind.f32.format.order d 981668463 = some .lt := cmp_lt' e2.fin kilo.1 (by rw [ed]; exact kp)
      have h2 : FloatKind.f32.format.order d 3129152111 = some .gt := cmp_gt' e2.fin kn.1 (by rw [ed]; exact kn.2)
      clear e1 e2 hv1 ed kp kn HG HV
      go_wp2
      go_ret
      simp
end Go.Proofs.Ytbpgbplepebcjaa

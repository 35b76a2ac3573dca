/- Walk: the sine of turns. Conditions: the plain function gives a number. -/
import Derived.Test.YtflcjmgenfmhkaaCb
namespace Go.Proofs.Ytflcjmgenfmhkaa
open Go.RowKit
open Circ

attribute [local go_sem] unary_ng
section
variable (w : World)
set_option maxHeartbeats 4000000 in
theorem sine_calls {x r : Nat} (h : sine x = some r) : Calls Try.prog 18 #[.float .f64 x] w fun e w' => e = .returned (.float .f64 r) ∧ w' = w := by
  unfold sine at h
  obtain ⟨f, hf, h1⟩ := af_some h
  obtain ⟨g, hg, h2⟩ := af_some h1
  obtain ⟨g2, hg2, h3⟩ := af_some h2
  obtain ⟨z, hz, h4⟩ := opf_some h3
  obtain ⟨u, hu, h5⟩ := opf_some h4
  obtain ⟨p, hp, h6⟩ := af_some h5
  obtain ⟨v, hv, h7⟩ := opf_some h6
  have FC := fraction_calls w hf
  have qz := run64 hz
  have qu := run64 hu
  have qv := run64 hv
  have HH := Lib.hid hp
  clear hf hz hu hv hp h h1 h2 h3 h4 h5 h6
  have GO : (∃ b1 b2 : Bool, (FloatKind.f64.format.order f half == some .gt) = b1 ∧ (FloatKind.f64.format.order f half == some .eq) = b2 ∧ (b1 || b2) = ge f half) := ⟨_, _, rfl, rfl, (ge_eq _ _).symm⟩
  obtain ⟨b1, b2, e1, e2, e12⟩ := GO
  rcases cond_some hg with ⟨c1, hg1⟩ | ⟨c1, rfl⟩ <;> rcases cond_some hg2 with ⟨c2, hg3⟩ | ⟨c2, rfl⟩ <;> rw [c1] at e12 h7 <;> rw [gt_eq] at c2 <;> simp only [if_true, Bool.false_eq_true, if_false, Option.some.injEq] at h7 <;> subst h7
  all_goals cases b1 <;> cases b2 <;> first | (cases e12; done) | skip
  all_goals
    clear e12
    first | have q1 := run64 hg1 | skip
    first | have q2 := run64 hg3 | skip
    first | clear hg1 | skip
    first | clear hg3 | skip
    clear hg hg2 c1
    go_enter Try.func18, Try.ntmps18
    go_wp2_with (first | (go_at_call 17; refine FC.mono ?_; rintro e w1 ⟨rfl, rfl⟩) | fail)
    go_loopg [7, 8] 8 (fun gk sp sk wr => ∃ (q kk : Nat), sp = .float .f64 q ∧ sk = .float .f64 kk ∧ Hid (kk = fi gk) ∧ gk ≤ 8 ∧ Hid (hor u gk q = some p) ∧ wr = w1)
    case atStart => exact ⟨one, _, rfl, rfl, Lib.hid (by decide +kernel), by omega, HH, rfl⟩
    case round =>
      obtain ⟨q, kk, rfl, rfl, HK, hj, HQ, rfl⟩ := hrel
      obtain ⟨s1, s2, s3, s4, s5⟩ := hor_steps gk (by omega)
      rw [← HK.out] at s1 s2 s5
      generalize fi (2 * (gk : Int)) = k1 at s2 s3 s4
      generalize fi (2 * (gk : Int) + 1) = k2 at s3 s4
      rcases Nat.eq_zero_or_pos gk with hj0 | hj0
      · rw [hj0] at HQ s1
        obtain ⟨s6, s7⟩ := Bool.or_eq_false_iff.1 (s1.trans (by decide))
        obtain rfl : q = p := by simpa [hor] using HQ.out
        clear s1 s2 s3 s4 s5 hj0
        go_wp2
        go_ret
        exact ⟨rfl, rfl⟩
      · obtain ⟨k, hk⟩ : ∃ k, gk = k + 1 := ⟨gk - 1, by omega⟩
        have hq := HQ.out
        rw [hk] at hq
        unfold hor at hq
        rw [← hk] at hq
        obtain ⟨a, ha, hq1⟩ := opf_some hq
        obtain ⟨b, hb, hq2⟩ := opf_some hq1
        obtain ⟨c, hc, hq3⟩ := opf_some hq2
        have h9 := s5 hj0
        have hgk : gk - 1 = k := by omega
        rw [hgk] at h9
        generalize fi (2 * (gk : Int) * (2 * (gk : Int) + 1)) = k3 at s4 hb
        obtain ⟨k4, hk4⟩ : ∃ k4, fi (k : Int) = k4 := ⟨_, rfl⟩
        rw [hk4] at h9
        have r1 := run64 s2
        have r2 := run64 s3
        have r3 := run64 s4
        have r4 := run64 h9
        have r5 := run64 ha
        have r6 := run64 hb
        have r7 := run64 hc
        have HN : Hid (hor u k c = some p ∧ k4 = fi k ∧ gk = k + 1) := Lib.hid ⟨hq3, hk4.symm, hk⟩
        rw [decide_eq_true (show 1 ≤ gk from hj0)] at s1
        have hlt : k < gk := by omega
        clear hq hq1 hq2 hq3 ha hb hc hk4 h9 s2 s3 s4 s5 hk hgk
        rcases ge_true ((ge_eq _ _).trans s1) with ⟨t1, t2⟩ | ⟨t1, t2⟩
        all_goals
          clear s1
          go_wp2
          go_roundg k
          case measure => exact hlt
          case rel => exact ⟨c, k4, rfl, rfl, Lib.hid HN.out.2.1, by omega, Lib.hid HN.out.1, rfl⟩
end
end Go.Proofs.Ytflcjmgenfmhkaa

/- Walk: the natural logarithm. Conditions: the plain function gives a number. -/
import Derived.Test.YtjmidicidgaapaaCg
namespace Go.Proofs.Ytjmidicidgaapaa
open Go.RowKit
open Circ

section
variable (w : World)
set_option maxHeartbeats 4000000 in
theorem log_calls {x r : Nat} (h : logP x = some r) : Calls Try.prog 64 #[.float .f64 x] w fun e w' => e = .returned (.float .f64 r) ∧ w' = w := by
  unfold logP at h
  cases h1 : halved 20 x 0 with
  | none => rw [h1] at h; cases h
  | some ye =>
    obtain ⟨y, e⟩ := ye
    rw [h1] at h
    simp only at h
    cases h2 : doubled 20 y e with
    | none => rw [h2] at h; cases h
    | some zf =>
      obtain ⟨z, f⟩ := zf
      rw [h2] at h
      simp only at h
      unfold logTail at h
      obtain ⟨a, ha, h3⟩ := opf_some h
      obtain ⟨b, hb, h4⟩ := opf_some h3
      obtain ⟨s, hs, h5⟩ := opf_some h4
      obtain ⟨u, hu, h6⟩ := opf_some h5
      obtain ⟨q, hq, h7⟩ := af_some h6
      obtain ⟨g, hg, h8⟩ := opf_some h7
      obtain ⟨m, hm, h9⟩ := opf_some h8
      obtain ⟨k, hk, h10⟩ := opf_some h9
      obtain ⟨v, hv, h11⟩ := opf_some h10
      cases h11
      have r1 := run64 ha
      have r2 := run64 hb
      have r3 := run64 hs
      have r4 := run64 hu
      have r5 := run64 hg
      have r6 := run64 hm
      have r7 := run64 hk
      have r8 := run64 hv
      have H1 := Lib.hid h1
      have H2 := Lib.hid h2
      have HQ := Lib.hid hq
      clear h h1 h2 h3 h4 h5 h6 h7 h8 h9 h10 ha hb hs hu hq hg hm hk hv
      go_enter Try.func64, Try.ntmps64
      go_wp2
      go_loopg [0, 3] 20 (fun gk sx se wr => ∃ (x' e' : Nat), sx = .float .f64 x' ∧ se = .float .f64 e' ∧ Hid (halved gk x' e' = some (y, e)) ∧ wr = w)
      case atStart => exact ⟨x, 0, rfl, rfl, H1, rfl⟩
      case round =>
        obtain ⟨x', e', rfl, rfl, HX, rfl⟩ := hrel
        cases hge : ge x' 4609434218613702656 with
        | true =>
          obtain ⟨n, x2, e2, hn, hx2, he2, hT⟩ := halved_go HX.out hge
          have p1 := run64 hx2
          have p2 := run64 he2
          have HT := Lib.hid hT
          have hlt : n < gk := by omega
          clear hn hx2 he2 hT HX H1 r1 r2 r3 r4 r5 r6 r7 r8
          rcases ge_true hge with ⟨t1, t2⟩ | ⟨t1, t2⟩
          all_goals
            clear hge
            go_wp2
            go_roundg n
            case measure => exact hlt
            case rel => exact ⟨x2, e2, rfl, rfl, HT, rfl⟩
        | false =>
          obtain ⟨t1, t2⟩ := ge_false hge
          have e1 := halved_stop HX.out hge
          obtain ⟨rfl, rfl⟩ : y = x' ∧ e = e' := by cases e1; exact ⟨rfl, rfl⟩
          clear hge e1 HX H1
          go_wp2
          clear t1 t2
          go_loopg [0, 3] 20 (fun gk sx se wr' => ∃ (x' e' : Nat), sx = .float .f64 x' ∧ se = .float .f64 e' ∧ Hid (doubled gk x' e' = some (z, f)) ∧ wr' = wr)
          case atStart => exact ⟨y, e, rfl, rfl, H2, rfl⟩
          case round =>
            obtain ⟨x', e', rfl, rfl, HX, rfl⟩ := hrel
            cases hge : lt x' 4604930618986332160 with
            | true =>
              obtain ⟨n, x2, e2, hn, hx2, he2, hT⟩ := doubled_go HX.out hge
              have p1 := run64 hx2
              have p2 := run64 he2
              have HT := Lib.hid hT
              have hlt : n < gk := by omega
              rw [lt_eq] at hge
              clear hn hx2 he2 hT HX H2 r1 r2 r3 r4 r5 r6 r7 r8
              go_wp2
              go_roundg n
              case measure => exact hlt
              case rel => exact ⟨x2, e2, rfl, rfl, HT, rfl⟩
            | false =>
              have e1 := doubled_stop HX.out hge
              obtain ⟨rfl, rfl⟩ : z = x' ∧ f = e' := by cases e1; exact ⟨rfl, rfl⟩
              rw [lt_eq] at hge
              clear e1 HX H2
              go_wp2
              clear hge
              go_loopg [6, 7] 13 (fun gk sq sk wr' => ∃ (q' kk : Nat), sq = .float .f64 q' ∧ sk = .float .f64 kk ∧ Hid (kk = fi (2 * (gk : Int) - 1)) ∧ gk ≤ 13 ∧ Hid (oddsL u gk q' = some q) ∧ wr' = wr)
              case atStart => exact ⟨0, _, rfl, rfl, Lib.hid (by decide +kernel), by omega, HQ, rfl⟩
              case round =>
                obtain ⟨q', kk, rfl, rfl, HK, hj, HT, rfl⟩ := hrel
                obtain ⟨s1, s2⟩ := odd_steps gk (by omega)
                rw [← HK.out] at s1 s2
                rcases Nat.eq_zero_or_pos gk with hj0 | hj0
                · rw [hj0] at HT s1
                  obtain ⟨t1, t2⟩ := Bool.or_eq_false_iff.1 (s1.trans (by decide))
                  obtain rfl : q' = q := by simpa [oddsL] using HT.out
                  clear s1 s2 hj0 HT HQ
                  go_wp2
                  go_ret
                  exact ⟨rfl, rfl⟩
                · obtain ⟨n, hn⟩ : ∃ n, gk = n + 1 := ⟨gk - 1, by omega⟩
                  have ht := HT.out
                  rw [hn] at ht
                  unfold oddsL at ht
                  rw [show 2 * (n : Int) + 1 = 2 * (gk : Int) - 1 by omega, ← HK.out] at ht
                  obtain ⟨c1, hc1, ht1⟩ := opf_some ht
                  obtain ⟨c2, hc2, ht2⟩ := opf_some ht1
                  obtain ⟨c3, hc3, ht3⟩ := opf_some ht2
                  have h9 := s2 hj0
                  rw [show gk - 1 = n by omega] at h9
                  obtain ⟨k4, hk4⟩ : ∃ k4, fi (2 * (n : Int) - 1) = k4 := ⟨_, rfl⟩
                  rw [hk4] at h9
                  have p1 := run64 hc1
                  have p2 := run64 hc2
                  have p3 := run64 hc3
                  have p4 := run64 h9
                  have HN := Lib.hid (And.intro ht3 hk4)
                  have hlt : n < gk := by omega
                  rw [decide_eq_true (show 1 ≤ gk from hj0)] at s1
                  clear ht ht1 ht2 ht3 hc1 hc2 hc3 h9 hk4 s2 hn HT HQ r1 r2 r3 r4 r5 r6 r7 r8
                  rcases ge_true ((ge_eq _ _).trans s1) with ⟨t1, t2⟩ | ⟨t1, t2⟩
                  all_goals
                    clear s1
                    go_wp2
                    go_roundg n
                    case measure => exact hlt
                    case rel => exact ⟨c3, k4, rfl, rfl, Lib.hid HN.out.2.symm, by omega, Lib.hid HN.out.1, rfl⟩
end
end Go.Proofs.Ytjmidicidgaapaa

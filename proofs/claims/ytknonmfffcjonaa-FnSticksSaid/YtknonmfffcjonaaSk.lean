/- Walks: one walker that comes to a field, of the reference and of the program (printed by gen_stick.py). Conditions: the field is valid. -/
import Derived.Test.YtknonmfffcjonaaTs
namespace Go.Proofs.Ytknonmfffcjonaa
open Go.RowKit

/-- What one walker leaves. -/
def StickRes (r : Nat × Bool × List Bool) (base : Nat) (A : Option Addr) (N c : Nat) (w : World) (e : Ending) (w' : World) : Prop :=
  e = .returned (.tuple #[.int .i64 (r.1 : Nat), .bool r.2.1]) ∧ w'.ownsRow base 4 1 (.slice A N c) N (r.2.2.map bv) ∧ w.grownBy w' (Value.slice A N c).ownBlock
theorem stick_full {cs : List Bool} {W H most s N : Nat} (hP : W * H = N) (h : cs.getD (drw s N) false = true) : stick cs W H most s = (nxt s, false, cs) := by
  subst hP; unfold stick; rw [if_pos h]
theorem stick_yes {cs : List Bool} {W H most s N a s' : Nat} (hP : W * H = N) (h : cs.getD (drw s N) false = false) (hw : walkTo cs W H most (drw s N) (nxt s) = (a, s')) (ht : touch cs (nbs W H a) = true) : stick cs W H most s = (s', true, cs.set a true) := by
  subst hP; unfold stick; rw [if_neg (by rw [h]; simp), hw, if_pos ht]
theorem stick_no {cs : List Bool} {W H most s N a s' : Nat} (hP : W * H = N) (h : cs.getD (drw s N) false = false) (hw : walkTo cs W H most (drw s N) (nxt s) = (a, s')) (ht : touch cs (nbs W H a) = false) : stick cs W H most s = (s', false, cs) := by
  subst hP; unfold stick; rw [if_neg (by rw [h]; simp), hw, if_neg (by rw [ht]; simp)]
theorem own_cellB {w : World} {base g n c : Nat} {e : TypeId} {cs : List Bool} (h : w.ownsRow base e 1 (.slice (some ⟨g, 0, none⟩) n c) n (cs.map bv)) {i : Nat} (hi : i < n) : w.cell? ⟨g, i, none⟩ = some (.bool (cs.getD i false)) := by
  have hl : cs.length = n := by have := h.1; simpa using this
  rw [h.cellAt _ (by omega), List.getElem?_map, List.getD_eq_getElem?_getD, List.getElem?_eq_getElem (by omega)]; rfl

set_option maxRecDepth 100000 in
set_option maxHeartbeats 8000000 in
theorem l07Stick_any (W H N most s : Nat) (A : Option Addr) (c g base : Nat) (cs : List Bool) (w : World) (hW : 1 ≤ W) (hW' : W ≤ 16) (hH : 1 ≤ H) (hH' : H ≤ 16) (hl : cs.length = N) (hP : W * H = N) (hm512 : most ≤ 512) (hs : s ≤ 2147483647)
    (hbk : Blk w g 26 #[.int .i64 W, .int .i64 H, .slice A N c]) (ho : w.ownsRow base 4 1 (.slice A N c) N (cs.map bv)) :
    Calls Try.prog 40 #[.pointer (some ⟨g, 0, none⟩), .int .i64 (most : Int), .int .i64 (s : Int)] w (StickRes (stick cs W H most s) base A N c w) := by
  have hN256 : N ≤ 256 := by have := Nat.mul_le_mul hW' hH'; omega
  have hN1 : 1 ≤ N := by rw [← hP]; exact Nat.mul_pos hW hH
  obtain ⟨ga, co', hvt, _, hga⟩ := ho.form (by omega)
  obtain ⟨rfl, rfl⟩ : A = some ⟨ga, 0, none⟩ ∧ c = co' := by injection hvt with h1 _ h3; exact ⟨h1, h3⟩
  have hgl := hbk.lt
  have k0 : ∀ w', Below w.heap.size w w' → w'.cell? ⟨g, 0, none⟩ = some (.int .i64 W) ∧ w'.cell? ⟨g, 1, none⟩ = some (.int .i64 H) ∧ w'.cell? ⟨g, 2, none⟩ = some (.slice (some ⟨ga, 0, none⟩) N c) := fun w' h => ⟨(h.cell hgl).trans (hbk.cell 0), (h.cell hgl).trans (hbk.cell 1), (h.cell hgl).trans (hbk.cell 2)⟩
  have HK := Lib.hid hbk
  have B0 : Hid (Below w.heap.size w w) := Below.refl _ _
  have K0 := Lib.hid k0
  have HL := Lib.hid hl
  have HP := Lib.hid hP
  have HO := Lib.hid ho
  have RA := Lib.hid (Rd.own ho)
  have hd0 := drw_lt s hN1
  have hx0 := nxt_lt s
  have cC := own_cellB ho hd0
  obtain ⟨d0, d1, d2⟩ := k0 w (Below.refl _ _)
  obtain ⟨full, hfull⟩ : ∃ full, cs.getD (drw s N) false = full := ⟨_, rfl⟩
  rw [hfull] at cC
  have DC := Lib.hid (l07Draw_any s N w hs hN1)
  obtain ⟨a0, ha0⟩ : ∃ a0, drw s N = a0 := ⟨_, rfl⟩
  obtain ⟨s0, hs0⟩ : ∃ s0, nxt s = s0 := ⟨_, rfl⟩
  rw [ha0] at cC hd0 hfull
  rw [hs0] at hx0
  rw [ha0, hs0] at DC
  have HF := Lib.hid hfull
  have HA0 := Lib.hid ha0
  have HS0 := Lib.hid hs0
  have had : (a0 : Int) < (N : Int) := by omega
  clear k0 hbk hl hP ho hvt hfull ha0 hs0
  go_enter Try.func40, Try.ntmps40
  go_wp2_with fail
  refine DC.out.mono ?_
  rintro e w5 ⟨rfl, h5⟩
  obtain rfl := h5.symm
  cases full
  rotate_left
  · have E := Lib.hid (stick_full (most := most) (s := s) HP.out (by rw [HA0.out]; exact HF.out))
    go_wp2
    go_ret2
    unfold StickRes
    rw [E.out, HS0.out]
    exact ⟨rfl, HO.out, World.grownBy.refl _ _⟩
  obtain ⟨R, hR⟩ : ∃ R, walkTo cs W H most a0 s0 = R := ⟨_, rfl⟩
  have HR0 := Lib.hid hR
  clear hR
  go_wp2
  clear cC d0 d1 d2
  go_loopw [1, 2, 8] (fun sk ss sa wr => ∃ (k a s : Nat), sk = .int .i64 k ∧ sa = .int .i64 a ∧ ss = .int .i64 s ∧ k ≤ 512 ∧ a < N ∧ s ≤ 2147483647 ∧ Below w.heap.size w wr ∧ Hid (walkTo cs W H k a s = R)) (fun sk _ _ _ => (intOf sk).toNat)
  case atStart => exact ⟨most, a0, s0, rfl, rfl, rfl, hm512, hd0, hx0, B0.out, HR0⟩
  case round =>
    clear hd0 had hx0
    obtain ⟨k, a, s1, rfl, rfl, rfl, hk512, haN, hsl, hb, HR⟩ := hrel
    obtain ⟨wo, hwo⟩ : ∃ x, x = wr := ⟨_, rfl⟩
    subst hwo
    have hsz := hb.size
    have had : (a : Int) < (N : Int) := by omega
    have TC := Lib.hid (l07Touches_any W H N a (some ⟨ga, 0, none⟩) c g cs wo hW hW' hH hH' HL.out HP.out haN (HK.out.below hb hgl) ((RA.out.below hb).more hsz))
    obtain ⟨t, ht⟩ : ∃ t, touch cs (nbs W H a) = t := ⟨_, rfl⟩
    rw [ht] at TC
    have HT := Lib.hid ht
    have HBo := Lib.hid hb
    obtain ⟨d0, d1, d2⟩ := K0.out wo hb
    clear ht hb
    by_cases hk0 : k = 0
    · obtain rfl := hk0
      have HRR : Hid (R = (a, s1)) := by rw [← HR.out]; rfl
      have TC2 := TC
      have HB2 := HBo
      have hsz2 := hsz
      clear TC d0 d1 d2
      cases t
      · have E := Lib.hid (stick_no (most := most) (s := s) HP.out (by rw [HA0.out]; exact HF.out) (by rw [HA0.out, HS0.out, HR0.out]; exact HRR.out) HT.out)
        go_wp2_with fail
        refine TC2.out.mono ?_
        rintro e w7 ⟨rfl, hb7⟩
        have HB7 := Lib.hid (HB2.out.trans (hb7.mono hsz2))
        clear hb7
        go_wp2
        go_ret2
        unfold StickRes
        rw [E.out]
        exact ⟨rfl, own_below HO.out HB7.out, grown_of_below HB7.out _⟩
      · have E := Lib.hid (stick_yes (most := most) (s := s) HP.out (by rw [HA0.out]; exact HF.out) (by rw [HA0.out, HS0.out, HR0.out]; exact HRR.out) HT.out)
        go_wp2_with fail
        refine TC2.out.mono ?_
        rintro e w7 ⟨rfl, hb7⟩
        have hb8 := HB2.out.trans (hb7.mono hsz2)
        have ho7 := own_below HO.out hb8
        have cC := own_cellB ho7 haN
        have fC : w7.frozen? ⟨ga, a, none⟩ = false := ho7.frozenAt _
        obtain ⟨d0, d1, d2⟩ := K0.out w7 hb8
        obtain ⟨ho8, hg8⟩ := ho7.stored a (.bool true)
        have hg9 : w.grownBy (w7.setCell ⟨ga, a, none⟩ (.bool true)) (some ga) := grown_set (grown_of_below hb8 (some ga)) rfl _
        have HO8 := Lib.hid ho8
        have HG9 := Lib.hid hg9
        clear hb7 hb8 ho7 ho8 hg8 hg9
        go_wp2
        go_ret2
        unfold StickRes
        rw [E.out, List.map_set]
        exact ⟨rfl, HO8.out, HG9.out⟩
    · obtain ⟨k', rfl⟩ : ∃ k', k = k' + 1 := ⟨k - 1, by omega⟩
      cases t
      · have HST := Lib.hid (walkTo_step (k := k') (s := s1) HT.out)
        have hd4 := drw_lt s1 (show 0 < 4 by omega)
        have hdN := moved_lt hW (by rw [HP.out]; exact haN) (drw s1 4) (H := H)
        have hR' := HR.out
        rw [HP.out] at hdN
        rw [HST.out] at hR'
        obtain ⟨m, hm, hmW, Hm⟩ : ∃ m : Nat, (a : Int) % (W : Int) = (m : Int) ∧ m < W ∧ Hid (a % W = m) := ⟨a % W, by omega, Nat.mod_lt _ (by omega), rfl⟩
        obtain ⟨q, hq, hqH, Hq⟩ : ∃ q : Nat, (a : Int) / (W : Int) = (q : Int) ∧ q < H ∧ Hid (a / W = q) := ⟨a / W, by simp, Nat.div_lt_of_lt_mul (by rw [HP.out]; exact haN), rfl⟩
        obtain ⟨d, hd⟩ : ∃ d, drw s1 4 = d := ⟨_, rfl⟩
        obtain ⟨d', hd'⟩ : ∃ d', moved W H a d = d' := ⟨_, rfl⟩
        rw [hd] at hdN hd4 hR'
        rw [hd'] at hdN hR'
        have hsn := nxt_lt s1
        have DC4 := Lib.hid (fun w => l07Draw_any s1 4 w hsl (by omega))
        rw [hd] at DC4
        obtain ⟨s2, hs2⟩ : ∃ s2, nxt s1 = s2 := ⟨_, rfl⟩
        rw [hs2] at hsn hR' DC4
        have HRN := Lib.hid hR'
        clear hd hs2 hR' HST HR
        go_wp2_with fail
        refine TC.out.mono ?_
        rintro e w7 ⟨rfl, hb7⟩
        have hbr := HBo.out.trans (hb7.mono hsz)
        have HBr := Lib.hid hbr
        obtain ⟨e0, e1, e2⟩ := K0.out w7 hbr
        clear hbr hb7 TC d0 d1 d2
        go_wp2_with fail
        refine (DC4.out _).mono ?_
        rintro e w5 ⟨rfl, h5⟩
        obtain rfl := h5.symm
        clear DC4
        obtain rfl | rfl | rfl | rfl : d = 0 ∨ d = 1 ∨ d = 2 ∨ d = 3 := by omega
        · rw [moved_0, Hm.out, Hq.out] at hd'
          by_cases hc : 1 ≤ q
          · rw [if_pos hc] at hd'
            obtain ⟨p, hp, hpl⟩ : ∃ p : Nat, ((q : Int) - 1) * (W : Int) = (p : Int) ∧ p ≤ 256 := ⟨(q - 1) * W, by first | (rw [Int.natCast_mul]; done) | (rw [Int.natCast_mul, Int.natCast_sub hc]; rfl) | (rw [Int.natCast_mul]; rfl), by have := Nat.mul_le_mul (show q - 1 ≤ 16 by omega) hW'; omega⟩
            have hd2 : (p : Int) + (m : Int) = (d' : Int) := by rw [← hp, ← hd']; first | (rw [Int.natCast_add, Int.natCast_mul]; done) | (rw [Int.natCast_add, Int.natCast_mul, Int.natCast_sub hc]; rfl) | (rw [Int.natCast_add, Int.natCast_mul]; rfl)
            have b1 : inB (m : Int) 0 ((W : Int) - 1) = true := by unfold inB; simp; omega
            have b2 : inB ((q : Int) - 1) 0 ((H : Int) - 1) = true := by unfold inB; simp; omega
            have B1 := Lib.hid b1
            have B2 := Lib.hid b2
            have E2 := Lib.hid hd2
            clear b1 b2 hd' hd2
            go_wp2_with fail
            refine (l00In_any _ _ _ _).mono ?_
            rintro e w5 ⟨rfl, h5⟩
            obtain rfl := h5.symm
            rw [B1.out]
            go_wp2_with fail
            refine (l00In_any _ _ _ _).mono ?_
            rintro e w5 ⟨rfl, h5⟩
            obtain rfl := h5.symm
            rw [B2.out]
            go_wp2
            go_roundw
            case rel => exact ⟨k', d', s2, by go_num, by first | rfl | (rw [← E2.out]), rfl, by omega, hdN, hsn, HBr.out, HRN⟩
            case measure => first | (simp [intOf]; done) | (simp [intOf]; omega)
          · rw [if_neg hc] at hd'
            obtain rfl := hd'.symm
            have E2 : Hid True := trivial
            have b1 : inB (m : Int) 0 ((W : Int) - 1) = true := by unfold inB; simp; omega
            have b2 : inB ((q : Int) - 1) 0 ((H : Int) - 1) = false := by unfold inB; simp; omega
            have B1 := Lib.hid b1
            have B2 := Lib.hid b2
            clear b1 b2 hd'
            go_wp2_with fail
            refine (l00In_any _ _ _ _).mono ?_
            rintro e w5 ⟨rfl, h5⟩
            obtain rfl := h5.symm
            rw [B1.out]
            go_wp2_with fail
            refine (l00In_any _ _ _ _).mono ?_
            rintro e w5 ⟨rfl, h5⟩
            obtain rfl := h5.symm
            rw [B2.out]
            go_wp2
            go_roundw
            case rel => exact ⟨k', d', s2, by go_num, by first | rfl | (rw [← E2.out]), rfl, by omega, hdN, hsn, HBr.out, HRN⟩
            case measure => first | (simp [intOf]; done) | (simp [intOf]; omega)
        · rw [moved_1, Hm.out, Hq.out] at hd'
          by_cases hc : 1 ≤ m
          · rw [if_pos hc] at hd'
            obtain ⟨p, hp, hpl⟩ : ∃ p : Nat, (q : Int) * (W : Int) = (p : Int) ∧ p ≤ 256 := ⟨(q) * W, by first | (rw [Int.natCast_mul]; done) | (rw [Int.natCast_mul, Int.natCast_sub hc]; rfl) | (rw [Int.natCast_mul]; rfl), by have := Nat.mul_le_mul (show q ≤ 16 by omega) hW'; omega⟩
            have hd2 : (p : Int) + ((m : Int) - 1) = (d' : Int) := by rw [← hp, ← hd']; first | (rw [Int.natCast_add, Int.natCast_mul]; done) | (rw [Int.natCast_add, Int.natCast_mul, Int.natCast_sub hc]; rfl) | (rw [Int.natCast_add, Int.natCast_mul]; rfl)
            have b1 : inB ((m : Int) - 1) 0 ((W : Int) - 1) = true := by unfold inB; simp; omega
            have b2 : inB (q : Int) 0 ((H : Int) - 1) = true := by unfold inB; simp; omega
            have B1 := Lib.hid b1
            have B2 := Lib.hid b2
            have E2 := Lib.hid hd2
            clear b1 b2 hd' hd2
            go_wp2_with fail
            refine (l00In_any _ _ _ _).mono ?_
            rintro e w5 ⟨rfl, h5⟩
            obtain rfl := h5.symm
            rw [B1.out]
            go_wp2_with fail
            refine (l00In_any _ _ _ _).mono ?_
            rintro e w5 ⟨rfl, h5⟩
            obtain rfl := h5.symm
            rw [B2.out]
            go_wp2
            go_roundw
            case rel => exact ⟨k', d', s2, by go_num, by first | rfl | (rw [← E2.out]), rfl, by omega, hdN, hsn, HBr.out, HRN⟩
            case measure => first | (simp [intOf]; done) | (simp [intOf]; omega)
          · rw [if_neg hc] at hd'
            obtain rfl := hd'.symm
            have E2 : Hid True := trivial
            have b1 : inB ((m : Int) - 1) 0 ((W : Int) - 1) = false := by unfold inB; simp; omega
            have B1 := Lib.hid b1
            clear b1 hd'
            go_wp2_with fail
            refine (l00In_any _ _ _ _).mono ?_
            rintro e w5 ⟨rfl, h5⟩
            obtain rfl := h5.symm
            rw [B1.out]
            go_wp2
            go_roundw
            case rel => exact ⟨k', d', s2, by go_num, by first | rfl | (rw [← E2.out]), rfl, by omega, hdN, hsn, HBr.out, HRN⟩
            case measure => first | (simp [intOf]; done) | (simp [intOf]; omega)
        · rw [moved_2, Hm.out, Hq.out] at hd'
          by_cases hc : m + 1 < W
          · rw [if_pos hc] at hd'
            obtain ⟨p, hp, hpl⟩ : ∃ p : Nat, (q : Int) * (W : Int) = (p : Int) ∧ p ≤ 256 := ⟨(q) * W, by first | (rw [Int.natCast_mul]; done) | (rw [Int.natCast_mul, Int.natCast_sub hc]; rfl) | (rw [Int.natCast_mul]; rfl), by have := Nat.mul_le_mul (show q ≤ 16 by omega) hW'; omega⟩
            have hd2 : (p : Int) + ((m : Int) + 1) = (d' : Int) := by rw [← hp, ← hd']; first | (rw [Int.natCast_add, Int.natCast_mul]; done) | (rw [Int.natCast_add, Int.natCast_mul, Int.natCast_sub hc]; rfl) | (rw [Int.natCast_add, Int.natCast_mul]; rfl)
            have b1 : inB ((m : Int) + 1) 0 ((W : Int) - 1) = true := by unfold inB; simp; omega
            have b2 : inB (q : Int) 0 ((H : Int) - 1) = true := by unfold inB; simp; omega
            have B1 := Lib.hid b1
            have B2 := Lib.hid b2
            have E2 := Lib.hid hd2
            clear b1 b2 hd' hd2
            go_wp2_with fail
            refine (l00In_any _ _ _ _).mono ?_
            rintro e w5 ⟨rfl, h5⟩
            obtain rfl := h5.symm
            rw [B1.out]
            go_wp2_with fail
            refine (l00In_any _ _ _ _).mono ?_
            rintro e w5 ⟨rfl, h5⟩
            obtain rfl := h5.symm
            rw [B2.out]
            go_wp2
            go_roundw
            case rel => exact ⟨k', d', s2, by go_num, by first | rfl | (rw [← E2.out]), rfl, by omega, hdN, hsn, HBr.out, HRN⟩
            case measure => first | (simp [intOf]; done) | (simp [intOf]; omega)
          · rw [if_neg hc] at hd'
            obtain rfl := hd'.symm
            have E2 : Hid True := trivial
            have b1 : inB ((m : Int) + 1) 0 ((W : Int) - 1) = false := by unfold inB; simp; omega
            have B1 := Lib.hid b1
            clear b1 hd'
            go_wp2_with fail
            refine (l00In_any _ _ _ _).mono ?_
            rintro e w5 ⟨rfl, h5⟩
            obtain rfl := h5.symm
            rw [B1.out]
            go_wp2
            go_roundw
            case rel => exact ⟨k', d', s2, by go_num, by first | rfl | (rw [← E2.out]), rfl, by omega, hdN, hsn, HBr.out, HRN⟩
            case measure => first | (simp [intOf]; done) | (simp [intOf]; omega)
        · rw [moved_3 _ _ _ _ (by omega), Hm.out, Hq.out] at hd'
          by_cases hc : q + 1 < H
          · rw [if_pos hc] at hd'
            obtain ⟨p, hp, hpl⟩ : ∃ p : Nat, ((q : Int) + 1) * (W : Int) = (p : Int) ∧ p ≤ 256 := ⟨(q + 1) * W, by first | (rw [Int.natCast_mul]; done) | (rw [Int.natCast_mul, Int.natCast_sub hc]; rfl) | (rw [Int.natCast_mul]; rfl), by have := Nat.mul_le_mul (show q + 1 ≤ 16 by omega) hW'; omega⟩
            have hd2 : (p : Int) + (m : Int) = (d' : Int) := by rw [← hp, ← hd']; first | (rw [Int.natCast_add, Int.natCast_mul]; done) | (rw [Int.natCast_add, Int.natCast_mul, Int.natCast_sub hc]; rfl) | (rw [Int.natCast_add, Int.natCast_mul]; rfl)
            have b1 : inB (m : Int) 0 ((W : Int) - 1) = true := by unfold inB; simp; omega
            have b2 : inB ((q : Int) + 1) 0 ((H : Int) - 1) = true := by unfold inB; simp; omega
            have B1 := Lib.hid b1
            have B2 := Lib.hid b2
            have E2 := Lib.hid hd2
            clear b1 b2 hd' hd2
            go_wp2_with fail
            refine (l00In_any _ _ _ _).mono ?_
            rintro e w5 ⟨rfl, h5⟩
            obtain rfl := h5.symm
            rw [B1.out]
            go_wp2_with fail
            refine (l00In_any _ _ _ _).mono ?_
            rintro e w5 ⟨rfl, h5⟩
            obtain rfl := h5.symm
            rw [B2.out]
            go_wp2
            go_roundw
            case rel => exact ⟨k', d', s2, by go_num, by first | rfl | (rw [← E2.out]), rfl, by omega, hdN, hsn, HBr.out, HRN⟩
            case measure => first | (simp [intOf]; done) | (simp [intOf]; omega)
          · rw [if_neg hc] at hd'
            obtain rfl := hd'.symm
            have E2 : Hid True := trivial
            have b1 : inB (m : Int) 0 ((W : Int) - 1) = true := by unfold inB; simp; omega
            have b2 : inB ((q : Int) + 1) 0 ((H : Int) - 1) = false := by unfold inB; simp; omega
            have B1 := Lib.hid b1
            have B2 := Lib.hid b2
            clear b1 b2 hd'
            go_wp2_with fail
            refine (l00In_any _ _ _ _).mono ?_
            rintro e w5 ⟨rfl, h5⟩
            obtain rfl := h5.symm
            rw [B1.out]
            go_wp2_with fail
            refine (l00In_any _ _ _ _).mono ?_
            rintro e w5 ⟨rfl, h5⟩
            obtain rfl := h5.symm
            rw [B2.out]
            go_wp2
            go_roundw
            case rel => exact ⟨k', d', s2, by go_num, by first | rfl | (rw [← E2.out]), rfl, by omega, hdN, hsn, HBr.out, HRN⟩
            case measure => first | (simp [intOf]; done) | (simp [intOf]; omega)
      · have HRR : Hid (R = (a, s1)) := by rw [← HR.out]; exact walkTo_stop HT.out
        go_wp2_with fail
        refine TC.out.mono ?_
        rintro e w6 ⟨rfl, hb6⟩
        have hb2 := HBo.out.trans (hb6.mono hsz)
        have hsz2 := hb2.size
        have TC2 := Lib.hid (l07Touches_any W H N a (some ⟨ga, 0, none⟩) c g cs w6 hW hW' hH hH' HL.out HP.out haN (HK.out.below hb2 hgl) ((RA.out.below hb2).more hsz2))
        rw [HT.out] at TC2
        have HB2 := Lib.hid hb2
        clear hb2 hb6 TC d0 d1 d2
        have E := Lib.hid (stick_yes (most := most) (s := s) HP.out (by rw [HA0.out]; exact HF.out) (by rw [HA0.out, HS0.out, HR0.out]; exact HRR.out) HT.out)
        go_wp2_with fail
        refine TC2.out.mono ?_
        rintro e w7 ⟨rfl, hb7⟩
        have hb8 := HB2.out.trans (hb7.mono hsz2)
        have ho7 := own_below HO.out hb8
        have cC := own_cellB ho7 haN
        have fC : w7.frozen? ⟨ga, a, none⟩ = false := ho7.frozenAt _
        obtain ⟨d0, d1, d2⟩ := K0.out w7 hb8
        obtain ⟨ho8, hg8⟩ := ho7.stored a (.bool true)
        have hg9 : w.grownBy (w7.setCell ⟨ga, a, none⟩ (.bool true)) (some ga) := grown_set (grown_of_below hb8 (some ga)) rfl _
        have HO8 := Lib.hid ho8
        have HG9 := Lib.hid hg9
        clear hb7 hb8 ho7 ho8 hg8 hg9
        go_wp2
        go_ret2
        unfold StickRes
        rw [E.out, List.map_set]
        exact ⟨rfl, HO8.out, HG9.out⟩

set_option maxRecDepth 100000 in
set_option maxHeartbeats 8000000 in
theorem stick_any (W H N most s : Nat) (A : Option Addr) (c base : Nat) (cs : List Bool) (w : World) (hW : 1 ≤ W) (hW' : W ≤ 16) (hH : 1 ≤ H) (hH' : H ≤ 16) (hl : cs.length = N) (hP : W * H = N) (hm512 : most ≤ 512) (hs : s ≤ 2147483647)
    (ho : w.ownsRow base 4 1 (.slice A N c) N (cs.map bv)) :
    Calls Try.prog 35 #[.agg #[.int .i64 W, .int .i64 H, .slice A N c], .int .i64 (most : Int), .int .i64 (s : Int)] w (StickRes (stick cs W H most s) base A N c w) := by
  have hN256 : N ≤ 256 := by have := Nat.mul_le_mul hW' hH'; omega
  have hN1 : 1 ≤ N := by rw [← hP]; exact Nat.mul_pos hW hH
  obtain ⟨ga, co', hvt, _, hga⟩ := ho.form (by omega)
  obtain ⟨rfl, rfl⟩ : A = some ⟨ga, 0, none⟩ ∧ c = co' := by injection hvt with h1 _ h3; exact ⟨h1, h3⟩
  obtain ⟨v, ev⟩ : ∃ v, v = w.alloc (.cells #[.int .i64 W, .int .i64 H, .slice (some ⟨ga, 0, none⟩) N c] 26) := ⟨_, rfl⟩
  have hbk : Blk v w.heap.size 26 #[.int .i64 W, .int .i64 H, .slice (some ⟨ga, 0, none⟩) N c] := by rw [ev]; exact Blk.new w _ _
  have B0 : Hid (Below w.heap.size w v) := by rw [ev]; exact (Below.refl _ _).alloc (Nat.le_refl _) _
  have hgl := hbk.lt
  have k0 : ∀ w', Below v.heap.size v w' → w'.cell? ⟨w.heap.size, 0, none⟩ = some (.int .i64 W) ∧ w'.cell? ⟨w.heap.size, 1, none⟩ = some (.int .i64 H) ∧ w'.cell? ⟨w.heap.size, 2, none⟩ = some (.slice (some ⟨ga, 0, none⟩) N c) := fun w' h => ⟨(h.cell hgl).trans (hbk.cell 0), (h.cell hgl).trans (hbk.cell 1), (h.cell hgl).trans (hbk.cell 2)⟩
  have hov : v.ownsRow base 4 1 (.slice (some ⟨ga, 0, none⟩) N c) N (cs.map bv) := by rw [ev]; exact ho.alloc _
  have hz0 : w.heap.size ≤ v.heap.size := B0.out.size
  have hga' : ga < v.heap.size := by omega
  have K0 := Lib.hid k0
  have HL := Lib.hid hl
  have HP := Lib.hid hP
  have HO := Lib.hid hov
  have RA := Lib.hid (Rd.own hov)
  have hd0 := drw_lt s hN1
  have hx0 := nxt_lt s
  have hcC := own_cellB hov hd0
  obtain ⟨full, hfull⟩ : ∃ full, cs.getD (drw s N) false = full := ⟨_, rfl⟩
  rw [hfull] at hcC
  have DC := Lib.hid (drawBelow_any s N v hs hN1)
  obtain ⟨a0, ha0⟩ : ∃ a0, drw s N = a0 := ⟨_, rfl⟩
  obtain ⟨s0, hs0⟩ : ∃ s0, nxt s = s0 := ⟨_, rfl⟩
  rw [ha0] at hcC hd0 hfull
  rw [hs0] at hx0
  rw [ha0, hs0] at DC
  have HC := Lib.hid hcC
  have HF := Lib.hid hfull
  have HA0 := Lib.hid ha0
  have HS0 := Lib.hid hs0
  have EV := Lib.hid ev
  have had : (a0 : Int) < (N : Int) := by omega
  clear k0 hbk hl hP ho hov hvt hfull ha0 hs0 hcC ev
  go_enter Try.func35, Try.ntmps35
  go_wp2_with fail
  rw [← EV.out]
  refine DC.out.mono ?_
  rintro e w1 ⟨rfl, m0, h5⟩
  have BV : Hid (Below v.heap.size v w1) := h5 ▸ below_drewN (Below.refl _ _) m0
  obtain ⟨d0, d1, d2⟩ := K0.out w1 BV.out
  have cC : w1.cell? ⟨ga, a0, none⟩ = some (.bool full) := h5 ▸ HC.out
  have hz1 : v.heap.size ≤ w1.heap.size := BV.out.size
  clear h5
  cases full
  rotate_left
  · have E := Lib.hid (stick_full (most := most) (s := s) HP.out (by rw [HA0.out]; exact HF.out))
    go_wp2
    go_ret2
    unfold StickRes
    rw [E.out, HS0.out]
    exact ⟨rfl, own_below HO.out BV.out, grown_of_below (B0.out.trans (BV.out.mono hz0)) _⟩
  obtain ⟨R, hR⟩ : ∃ R, walkTo cs W H most a0 s0 = R := ⟨_, rfl⟩
  have HR0 := Lib.hid hR
  clear hR
  go_wp2
  clear cC d0 d1 d2
  go_loopw [2, 8, 26] (fun ss sa sk wr => ∃ (k a s : Nat), k ≤ most ∧ sk = .int .i64 k ∧ sa = .int .i64 a ∧ ss = .int .i64 s ∧ a < N ∧ s ≤ 2147483647 ∧ Below v.heap.size v wr ∧ Hid (walkTo cs W H (most - k) a s = R)) (fun _ _ sk _ => most - (intOf sk).toNat)
  case atStart => exact ⟨0, a0, s0, Nat.zero_le _, rfl, rfl, rfl, hd0, hx0, BV.out, by rw [Nat.sub_zero]; exact HR0⟩
  case round =>
    clear hd0 had hx0 BV hz1
    obtain ⟨k, a, s1, hk, rfl, rfl, rfl, haN, hsl, hb, HR⟩ := hrel
    obtain ⟨wo, hwo⟩ : ∃ x, x = wr := ⟨_, rfl⟩
    subst hwo
    have hsz := hb.size
    have had : (a : Int) < (N : Int) := by omega
    have TC := Lib.hid (touches_any W H N a (some ⟨ga, 0, none⟩) c cs wo hW hW' hH hH' HL.out HP.out haN ((RA.out.below hb).more hsz))
    obtain ⟨t, ht⟩ : ∃ t, touch cs (nbs W H a) = t := ⟨_, rfl⟩
    rw [ht] at TC
    have HT := Lib.hid ht
    have HBo := Lib.hid hb
    obtain ⟨d0, d1, d2⟩ := K0.out wo hb
    clear ht hb
    by_cases hk0 : k = most
    · obtain rfl : most = k := by omega
      have HRR : Hid (R = (a, s1)) := by rw [← HR.out, Nat.sub_self]; rfl
      have TC2 := TC
      have HB2 := HBo
      have hsz2 := hsz
      clear TC
      cases t
      · have E := Lib.hid (stick_no (most := most) (s := s) HP.out (by rw [HA0.out]; exact HF.out) (by rw [HA0.out, HS0.out, HR0.out]; exact HRR.out) HT.out)
        go_wp2_with fail
        refine TC2.out.mono ?_
        rintro e w7 ⟨rfl, hb7⟩
        have HB7 := Lib.hid (HB2.out.trans (hb7.mono hsz2))
        clear hb7
        go_wp2
        go_ret2
        unfold StickRes
        rw [E.out]
        exact ⟨rfl, own_below HO.out HB7.out, grown_of_below (B0.out.trans (HB7.out.mono hz0)) _⟩
      · have E := Lib.hid (stick_yes (most := most) (s := s) HP.out (by rw [HA0.out]; exact HF.out) (by rw [HA0.out, HS0.out, HR0.out]; exact HRR.out) HT.out)
        go_wp2_with fail
        refine TC2.out.mono ?_
        rintro e w7 ⟨rfl, hb7⟩
        have hb8 := HB2.out.trans (hb7.mono hsz2)
        have ho7 := own_below HO.out hb8
        have cC := own_cellB ho7 haN
        have fC : w7.frozen? ⟨ga, a, none⟩ = false := ho7.frozenAt _
        obtain ⟨d0, d1, d2⟩ := K0.out w7 hb8
        obtain ⟨ho8, hg8⟩ := ho7.stored a (.bool true)
        have hg9 : w.grownBy (w7.setCell ⟨ga, a, none⟩ (.bool true)) (some ga) := grown_set (grown_of_below (B0.out.trans (hb8.mono hz0)) (some ga)) rfl _
        have HO8 := Lib.hid ho8
        have HG9 := Lib.hid hg9
        clear hb7 hb8 ho7 ho8 hg8 hg9
        go_wp2
        go_ret2
        unfold StickRes
        rw [E.out, List.map_set]
        exact ⟨rfl, HO8.out, HG9.out⟩
    · have hlt : k < most := by omega
      cases t
      · have HST := Lib.hid (walkTo_step (k := most - (k + 1)) (s := s1) HT.out)
        have hd4 := drw_lt s1 (show 0 < 4 by omega)
        have hdN := moved_lt hW (by rw [HP.out]; exact haN) (drw s1 4) (H := H)
        rw [HP.out] at hdN
        have hR' := HR.out
        rw [show most - k = most - (k + 1) + 1 from by omega, HST.out] at hR'
        have hsn := nxt_lt s1
        have DC4 := Lib.hid (fun w => drawBelow_any s1 4 w hsl (by omega))
        obtain ⟨d, hd⟩ : ∃ d, drw s1 4 = d := ⟨_, rfl⟩
        obtain ⟨s2, hs2⟩ : ∃ s2, nxt s1 = s2 := ⟨_, rfl⟩
        obtain ⟨d', hd'⟩ : ∃ d', moved W H a d = d' := ⟨_, rfl⟩
        rw [hd] at hdN hd4 hR' DC4
        rw [hd'] at hdN hR'
        rw [hs2] at hsn hR' DC4
        have HRN := Lib.hid hR'
        have HD' := Lib.hid hd'
        clear hd hs2 hd' hR' HST HR
        go_wp2_with fail
        refine TC.out.mono ?_
        rintro e w7 ⟨rfl, hb7⟩
        have HBr := Lib.hid (HBo.out.trans (hb7.mono hsz))
        clear hb7 TC d0 d1 d2
        go_wp2_with fail
        refine (DC4.out _).mono ?_
        rintro e w8 ⟨rfl, m8, h8⟩
        have HB8 : Hid (Below v.heap.size v w8) := h8 ▸ below_drewN HBr.out m8
        obtain ⟨e0, e1, e2⟩ := K0.out w8 HB8.out
        have hz8 := HB8.out.size
        have MV := Lib.hid (moved_any W H a d (.slice (some ⟨ga, 0, none⟩) N c) w8 rfl hW hW' hH hH' (by rw [HP.out]; exact haN) hd4)
        rw [HD'.out] at MV
        clear h8 DC4 HBr
        go_wp2_with fail
        refine MV.out.mono ?_
        rintro e w9 ⟨rfl, hb9⟩
        have HB9 := Lib.hid (HB8.out.trans (hb9.mono hz8))
        clear hb9 e0 e1 e2
        go_wp2
        go_roundw
        case rel => exact ⟨k + 1, d', s2, by omega, by go_num, rfl, rfl, hdN, hsn, HB9.out, HRN⟩
        case measure => simp [intOf]; omega
      · have HRR : Hid (R = (a, s1)) := by rw [← HR.out]; exact walkTo_stop HT.out
        go_wp2_with fail
        refine TC.out.mono ?_
        rintro e w6 ⟨rfl, hb6⟩
        have hb2 := HBo.out.trans (hb6.mono hsz)
        have hsz2 := hb2.size
        have TC2 := Lib.hid (touches_any W H N a (some ⟨ga, 0, none⟩) c cs w6 hW hW' hH hH' HL.out HP.out haN ((RA.out.below hb2).more hsz2))
        rw [HT.out] at TC2
        have HB2 := Lib.hid hb2
        obtain ⟨e0, e1, e2⟩ := K0.out w6 hb2
        clear hb2 hb6 TC d0 d1 d2
        have E := Lib.hid (stick_yes (most := most) (s := s) HP.out (by rw [HA0.out]; exact HF.out) (by rw [HA0.out, HS0.out, HR0.out]; exact HRR.out) HT.out)
        go_wp2_with fail
        refine TC2.out.mono ?_
        rintro e w7 ⟨rfl, hb7⟩
        have hb8 := HB2.out.trans (hb7.mono hsz2)
        have ho7 := own_below HO.out hb8
        have cC := own_cellB ho7 haN
        have fC : w7.frozen? ⟨ga, a, none⟩ = false := ho7.frozenAt _
        obtain ⟨d0, d1, d2⟩ := K0.out w7 hb8
        obtain ⟨ho8, hg8⟩ := ho7.stored a (.bool true)
        have hg9 : w.grownBy (w7.setCell ⟨ga, a, none⟩ (.bool true)) (some ga) := grown_set (grown_of_below (B0.out.trans (hb8.mono hz0)) (some ga)) rfl _
        have HO8 := Lib.hid ho8
        have HG9 := Lib.hid hg9
        clear hb7 hb8 ho7 ho8 hg8 hg9
        go_wp2
        go_ret2
        unfold StickRes
        rw [E.out, List.map_set]
        exact ⟨rfl, HO8.out, HG9.out⟩
end Go.Proofs.Ytknonmfffcjonaa

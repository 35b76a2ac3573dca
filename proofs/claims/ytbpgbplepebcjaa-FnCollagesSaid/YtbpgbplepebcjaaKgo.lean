/- Walk: the law FnCollages: it returns true. Conditions: at most 2^20 bytes each (the longer ones apart). -/
import Derived.Test.YtbpgbplepebcjaaKgk
import Derived.Test.YtbpgbplepebcjaaKgp
import Derived.Test.YtbpgbplepebcjaaHk
import Derived.Test.YtbpgbplepebcjaaMo
import Derived.Test.YtbpgbplepebcjaaLc
namespace Go.Proofs.Ytbpgbplepebcjaa
open Go.RowKit
open Num Quick
attribute [local go_sem] run_store_fl run_store_cx

set_option maxRecDepth 100000 in
set_option maxHeartbeats 400000 in
theorem lawKg_long (A1 A2 : Option Addr) (n1 c1 n2 c2 : Nat) (w : World) (hn1 : n1 ≤ maxLen) (hn2 : n2 ≤ maxLen) (hbig : ¬ (n1 ≤ 1048576 ∧ n2 ≤ 1048576)) :
    Calls Try.prog 6 #[.slice A1 n1 c1, .slice A2 n2 c2] w fun e w' => e = .returned (.bool true) ∧ Below w.heap.size w w' := by
  have e : (decide (1048576 < n1) || decide (1048576 < n2)) = true := by
    by_cases h : n1 ≤ 1048576
    · have : 1048576 < n2 := by omega
      simp [this]
    · have : 1048576 < n1 := by omega
      simp [this]
  have LC := b10Long_any A1 A2 n1 c1 n2 c2 w hn1 hn2
  rw [e] at LC
  have LCH := Lib.hid LC
  clear LC e
  go_enter Try.func6, Try.ntmps6
  go_wp2_with fail
  refine LCH.out.mono ?_
  rintro e w1 ⟨rfl, rfl⟩
  go_wp2
  go_ret
  exact ⟨rfl, Below.refl _ _⟩
theorem far_self {P : List (Nat × Nat)} {n : Nat} (hl : P.length = n) (hn : 1 ≤ n) (hP : ∀ p ∈ P, PlOk p) : farN P P = 0 := by
  have key : toFar P P P.length = 0 := by
    refine maxTo_zero fun i hi => ?_
    have hi : i < n := by omega
    obtain ⟨_, _, h3, h4⟩ := nearT_ok hl hn hP (hP _ (pl_mem hl hi))
    have h := h3 i hi
    have hz := hP _ (pl_mem hl hi)
    have D := dstT_spec hz hz
    have e : Num.fv .f32 (P.getD i (0, 0)).1 - Num.fv .f32 (P.getD i (0, 0)).1 = 0 := by grind
    have e2 : Num.fv .f32 (P.getD i (0, 0)).2 - Num.fv .f32 (P.getD i (0, 0)).2 = 0 := by grind
    have f1 := D.f1
    have f2 := D.f2
    rw [e] at f1
    rw [e2] at f2
    have rep0 : Rep FloatKind.f32.format 0 := by
      have := rep_nat .f32 0 (by decide)
      rwa [Rat.intCast_zero] at this
    have v1 := f1.exact _ rep0
    have v2 := f2.exact _ rep0
    have r := D.lw.root
    have v1' : Num.fv .f32 (dstT (P.getD i (0, 0)) (P.getD i (0, 0))).1 = 0 := v1
    have v2' : Num.fv .f32 (dstT (P.getD i (0, 0)) (P.getD i (0, 0))).2.1 = 0 := v2
    rw [v1', v2'] at r
    have h0 := r.le _ rep0 (by decide +kernel) (by grind)
    have hv : Num.fv .f32 (dst (P.getD i (0, 0)) (P.getD i (0, 0))) ≤ 0 := h0
    have l0 := (plus_le (dst_lt hz hz) (show 0 < 2139095040 by omega)).1 (by rw [c0.2]; exact hv)
    omega
  unfold farN
  rw [key]
  rfl
theorem farN_lt {P Q : List (Nat × Nat)} {n m : Nat} (hl : P.length = n) (hl2 : Q.length = m) (hn : 1 ≤ n) (hm : 1 ≤ m) (hP : ∀ p ∈ P, PlOk p) (hQ : ∀ p ∈ Q, PlOk p) : farN P Q < 2139095040 := by
  have a := toFar_lt hl hl2 hm hP hQ (k := P.length) (by omega)
  have b := toFar_lt hl2 hl hn hQ hP (k := Q.length) (by omega)
  unfold farN
  omega
theorem imgs_first {L : List Sm} {P : List (Nat × Nat)} {x : Sm} {k : Nat} (hx : L[0]? = some x) (hk : k < P.length) : (imgs L P).getD k (0, 0) = mpP x (P.getD k (0, 0)) := by
  cases L with
  | nil => simp at hx
  | cons y L =>
    obtain rfl : y = x := by simpa using hx
    unfold imgs
    rw [List.flatMap_cons, List.getD_eq_getElem?_getD, List.getElem?_append_left (by rw [List.length_map]; exact hk), List.getElem?_map, List.getD_eq_getElem?_getD]
    rw [List.getElem?_eq_getElem hk]
    rfl
theorem rd_cx {w' : World} {n B b off i : Nat} {P : List (Nat × Nat)} (h : Rd w' B 1 (some ⟨b, off, none⟩) n (P.map cxv)) (hl : P.length = n) (hi : i < n) : w'.cell? ⟨b, off + i, none⟩ = some (.complex .f32 (P.getD i (0, 0)).1 (P.getD i (0, 0)).2) := by
  obtain ⟨b', off', e, _, hc⟩ := h.2 (by omega)
  obtain ⟨rfl, rfl⟩ : b = b' ∧ off = off' := by injection e with e; injection e with e1 e2; exact ⟨e1, e2⟩
  exact hc i _ (cxv_at hl hi)
theorem getD_plus {P : List (Nat × Nat)} {i : Nat} (h : i < P.length) : P.getD i (0, 0) = P[i] := by
  rw [List.getD_eq_getElem?_getD, List.getElem?_eq_getElem h]; rfl
set_option maxRecDepth 100000 in
set_option maxHeartbeats 16000000 in
theorem lawKg_any (A1 A2 : Option Addr) (n1 c1 n2 c2 : Nat) (bs bs2 : List Nat) (w : World) (hn1 : n1 ≤ 1048576) (hn2 : n2 ≤ 1048576) (hc1 : n1 ≤ c1) (hc2 : n2 ≤ c2) (hbs : ∀ x ∈ bs, x < 256) (hbs2 : ∀ x ∈ bs2, x < 256) (hA : Rd w w.heap.size 1 A1 n1 (bs.map u8v)) (hA2 : Rd w w.heap.size 1 A2 n2 (bs2.map u8v)) :
    Calls Try.prog 6 #[.slice A1 n1 c1, .slice A2 n2 c2] w fun e w' => e = .returned (.bool true) ∧ Below w.heap.size w w' := by
  have LC := b10Long_any A1 A2 n1 c1 n2 c2 w (by unfold maxLen; omega) (by unfold maxLen; omega)
  rw [show (decide (1048576 < n1) || decide (1048576 < n2)) = false by simp; omega] at LC
  have LCH := Lib.hid LC
  have SC := Lib.hid (B10Smalls_any n1 c1 A1 bs w hn1 hc1 hbs hA)
  have hl2 : bs2.length = n2 := by have := hA2.len; simpa using this
  obtain ⟨ya, hya, YA⟩ := b10At_val A2 n2 c2 0 6 bs2 hl2 hn2 (by omega) (by omega) (by omega) hbs2
  obtain ⟨yb, hyb, YB⟩ := b10At_val A2 n2 c2 1 6 bs2 hl2 hn2 (by omega) (by omega) (by omega) hbs2
  replace YA := Lib.hid (fun w' (hb : Below w.heap.size w w') => YA _ _ (hA2.below hb))
  replace YB := Lib.hid (fun w' (hb : Below w.heap.size w w') => YB _ _ (hA2.below hb))
  obtain ⟨n, en⟩ : ∃ n, ya + 2 = n := ⟨_, rfl⟩
  obtain ⟨m, em⟩ : ∃ m, yb + 1 = m := ⟨_, rfl⟩
  have enI : (2 : Int) + (ya : Int) = (n : Int) := by omega
  have emI : (1 : Int) + (yb : Int) = (m : Int) := by omega
  have hnn : 2 ≤ n ∧ n ≤ 7 := by omega
  have hmm : 1 ≤ m ∧ m ≤ 6 := by omega
  have PA := Lib.hid (fun w' (hb : Below w.heap.size w w') => B10Points_any n1 c1 n A1 bs w' (by omega) hn1 hc1 hbs ((hA.below hb).more hb.size))
  have PB := Lib.hid (fun w' (hb : Below w.heap.size w w') => B10Points_any n2 c2 m A2 bs2 w' (by omega) hn2 hc2 hbs2 ((hA2.below hb).more hb.size))
  clear LC hA hbs hA2 hbs2 hl2
  clear en em
  go_enter Try.func6, Try.ntmps6
  go_wp2_with fail
  refine LCH.out.mono ?_
  rintro e w0 ⟨rfl, hw0⟩
  obtain rfl := hw0.symm
  go_wp2_with fail
  refine SC.out.mono ?_
  intro e w1 hD
  obtain ⟨L, N, g, cc, rfl, hL, hN, hok, hR, hG⟩ := hD
  rw [hL] at hR ⊢
  have B1 := Lib.hid hG
  have RD := Lib.hid (Rd.own hR)
  clear LCH SC hw0 hR hG
  go_wp2_with fail
  refine (YA.out _ B1.out).mono ?_
  rintro e w5 ⟨rfl, hw5⟩
  obtain rfl := hw5.symm
  clear hw5 YA
  go_wp2_with fail
  refine (PA.out _ B1.out).mono ?_
  rintro e w2 ⟨P, Aa, ca, rfl, hlP, hPt, hRa, hGa⟩
  rw [hlP] at hRa ⊢
  have B2 := Lib.hid (B1.out.trans (hGa.mono B1.out.size))
  have RD2 := Lib.hid ((RD.out.below hGa).more hGa.size)
  have RA := Lib.hid (Rd.own hRa)
  clear hRa hGa B1 RD PA
  go_wp2_with fail
  refine (YB.out _ B2.out).mono ?_
  rintro e w5 ⟨rfl, hw5⟩
  obtain rfl := hw5.symm
  clear hw5 YB
  go_wp2_with fail
  refine (PB.out _ B2.out).mono ?_
  rintro e w3 ⟨Q, Ab, cb, rfl, hlQ, hQt, hRb, hGb⟩
  rw [hlQ] at hRb ⊢
  have B3 := Lib.hid (B2.out.trans (hGb.mono B2.out.size))
  have RD3 := Lib.hid ((RD2.out.below hGb).more hGb.size)
  have RA3 := Lib.hid ((RA.out.below hGb).more hGb.size)
  have RB3 := Lib.hid (Rd.own hRb)
  clear hRb hGb B2 RD2 RA PB
  have hPp : ∀ p ∈ P, PlOk p := fun p hp => pt_pl (hPt p hp)
  have hQp : ∀ p ∈ Q, PlOk p := fun p hp => pt_pl (hQt p hp)
  obtain ⟨ba, oa, rfl, _, _⟩ := RA3.out.2 (by omega)
  obtain ⟨bb, ob, rfl, _, _⟩ := RB3.out.2 (by omega)
  have F1 := Lib.hid (farOf_w P Q (some ⟨ba, oa, none⟩) (some ⟨bb, ob, none⟩) n ca m cb w3 hlP (by omega) (by omega) hPp RA3.out hlQ (by omega) (by omega) hQp RB3.out)
  have F2 := farOf_w Q P (some ⟨bb, ob, none⟩) (some ⟨ba, oa, none⟩) m cb n ca w3 hlQ (by omega) (by omega) hQp RB3.out hlP (by omega) (by omega) hPp RA3.out
  rw [farN_comm Q P] at F2
  have F2 := Lib.hid F2
  have F3 := farOf_w P P (some ⟨ba, oa, none⟩) (some ⟨ba, oa, none⟩) n ca n ca w3 hlP (by omega) (by omega) hPp RA3.out hlP (by omega) (by omega) hPp RA3.out
  rw [far_self hlP (by omega) hPp] at F3
  have F3 := Lib.hid F3
  have F4 := Lib.hid (imagesOf_w L N P (some ⟨g, 0, none⟩) (some ⟨ba, oa, none⟩) n cc ca w3 hL hN hok RD3.out hlP (by omega) (by omega) hPt RA3.out)
  go_wp2_with fail
  refine F1.out.mono ?_
  rintro e w5 ⟨rfl, hw5⟩
  obtain rfl := hw5.symm
  go_wp2_with fail
  refine F2.out.mono ?_
  rintro e w5 ⟨rfl, hw5⟩
  obtain rfl := hw5.symm
  go_wp2_with fail
  refine F3.out.mono ?_
  rintro e w5 ⟨rfl, hw5⟩
  obtain rfl := hw5.symm
  go_wp2_with fail
  refine F4.out.mono ?_
  rintro e w4 ⟨gi, ci, rfl, hoi, hbi⟩
  obtain ⟨NM, eNM⟩ : ∃ x, N * n = x := ⟨_, rfl⟩
  have hN4 : N ≤ 4 := by omega
  have hN1 : 1 ≤ N := by omega
  have hNM1 : 1 ≤ NM := by rw [← eNM]; exact Nat.mul_pos hN1 (by omega)
  have hNM : NM ≤ 28 := by rw [← eNM]; exact Nat.mul_le_mul hN4 hnn.2
  have hnNM : n ≤ NM := by rw [← eNM]; exact Nat.le_mul_of_pos_left n hN1
  have eNI : (N : Int) * (n : Int) = (NM : Int) := by rw [← eNM]; simp
  have hIl : (imgs L P).length = NM := by rw [imgs_length, hL, hlP, eNM]
  have hIp := imgs_pl hok hPt
  rw [eNM] at hoi ⊢
  obtain ⟨b3, eb3⟩ : ∃ b, w3.heap.size = b := ⟨_, rfl⟩
  obtain ⟨b4, eb4⟩ : ∃ b, w4.heap.size = b := ⟨_, rfl⟩
  have S4 : Hid (Held ([.low w, .rd b3 4 (some ⟨g, 0, none⟩) N (smCells L), .rd b3 1 (some ⟨ba, oa, none⟩) n (P.map cxv), .rd b3 1 (some ⟨bb, ob, none⟩) m (Q.map cxv)] ++ [.rd b4 1 (some ⟨gi, 0, none⟩) NM ((imgs L P).map cxv)]) w4) := by
    have t : Held [.low w, .rd w3.heap.size 4 (some ⟨g, 0, none⟩) N (smCells L), .rd w3.heap.size 1 (some ⟨ba, oa, none⟩) n (P.map cxv), .rd w3.heap.size 1 (some ⟨bb, ob, none⟩) m (Q.map cxv)] w3 :=
      ((((Held.nil w3).put (f := .rd w3.heap.size 1 (some ⟨bb, ob, none⟩) m (Q.map cxv)) ⟨Nat.le_refl _, RB3.out⟩).put (f := .rd w3.heap.size 1 (some ⟨ba, oa, none⟩) n (P.map cxv)) ⟨Nat.le_refl _, RA3.out⟩).put (f := .rd w3.heap.size 4 (some ⟨g, 0, none⟩) N (smCells L)) ⟨Nat.le_refl _, RD3.out⟩).put (f := .low w) ⟨B3.out.size, B3.out⟩
    have t2 := (t.below hbi).add (f := .rd w4.heap.size 1 (some ⟨gi, 0, none⟩) NM ((imgs L P).map cxv)) ⟨Nat.le_refl _, Rd.own hoi⟩
    rw [eb3, eb4] at t2
    exact t2
  have F5 := Lib.hid (collage_w L N P (some ⟨g, 0, none⟩) (some ⟨ba, oa, none⟩) n cc ca w4 hL hN hok (S4.out.rd 1 rfl) hlP (by omega) (by omega) hPt (S4.out.rd 2 rfl))
  have F6 := Lib.hid (fun w' (hS : Held ([.low w, .rd b3 4 (some ⟨g, 0, none⟩) N (smCells L), .rd b3 1 (some ⟨ba, oa, none⟩) n (P.map cxv), .rd b3 1 (some ⟨bb, ob, none⟩) m (Q.map cxv)] ++ [.rd b4 1 (some ⟨gi, 0, none⟩) NM ((imgs L P).map cxv)]) w') => farOf_w P (imgs L P) (some ⟨ba, oa, none⟩) (some ⟨gi, 0, none⟩) n ca NM ci w' hlP (by omega) (by omega) hPp (hS.rd 2 rfl) hIl (by omega) (by omega) hIp (hS.rd 4 rfl))
  have N1 := Lib.hid (fun w => snumber_w (plus_val (farN_lt hlP hlQ (by omega) (by omega) hPp hQp)).1 w)
  have N2 := Lib.hid (fun w => snumber_w (plus_val (farN_lt hlP hIl (by omega) (by omega) hPp hIp)).1 w)
  have FPQ := Lib.hid (farN_lt hlP hlQ (by omega) (by omega) hPp hQp)
  clear hoi hbi F1 F2 F3 F4 RD3 RA3 RB3 B3 eNM eb3 eb4
  go_wp2_with fail
  refine F5.out.mono ?_
  rintro e w5 ⟨rfl, hb5⟩
  have S5 := Lib.hid (S4.out.below hb5)
  clear hb5 S4 F5
  go_wp2_with fail
  refine (F6.out _ S5.out).mono ?_
  rintro e w6 ⟨rfl, hw6⟩
  obtain rfl := hw6.symm
  clear hw6 F6
  have z00 : (FloatKind.f32.format.order 0 0 != some .eq) = false := by decide +kernel
  obtain ⟨far, efar⟩ : ∃ f, farN P Q = f := ⟨_, rfl⟩
  obtain ⟨col, ecol⟩ : ∃ f, farN P (imgs L P) = f := ⟨_, rfl⟩
  have EF := Lib.hid efar
  rw [efar] at N1 FPQ ⊢
  rw [ecol] at N2 ⊢
  clear efar ecol
  go_wp2_with fail
  refine (N1.out _).mono ?_
  rintro e w6 ⟨rfl, hw6⟩
  obtain rfl := hw6.symm
  go_wp2_with fail
  refine (N2.out _).mono ?_
  rintro e w6 ⟨rfl, hw6⟩
  obtain rfl := hw6.symm
  have HPP := Lib.hid hPp
  have HQP := Lib.hid hQp
  have HPT := Lib.hid hPt
  have HLP := Lib.hid hlP
  have HLQ := Lib.hid hlQ
  have HLL := Lib.hid hL
  have HOK := Lib.hid hok
  have HIL := Lib.hid hIl
  have HNN := Lib.hid hN
  clear N1 N2 hPp hQp hPt hQt hlP hlQ hL hok hIl hIp hN
  go_wp2
  go_loopw [20, 135] (fun sm si wr => ∃ i x : Nat, i ≤ n ∧ si = .int .i64 (i : Int) ∧ sm = .float .f32 x ∧ Hid (x = toFar P Q i) ∧ Hid (Held ([.low w, .rd b3 4 (some ⟨g, 0, none⟩) N (smCells L), .rd b3 1 (some ⟨ba, oa, none⟩) n (P.map cxv), .rd b3 1 (some ⟨bb, ob, none⟩) m (Q.map cxv)] ++ [.rd b4 1 (some ⟨gi, 0, none⟩) NM ((imgs L P).map cxv)]) wr)) (fun _ si _ => n - (intOf si).toNat)
  case atStart => exact ⟨0, 0, Nat.zero_le _, rfl, rfl, Lib.hid rfl, S5⟩
  case round =>
    clear S5
    obtain ⟨i, x, hi, rfl, rfl, HX, S⟩ := hrel
    by_cases hlt : i < n
    · have hz := HPP.out _ (pl_mem HLP.out hlt)
      have NT := Lib.hid (fun w' (hS : Held ([.low w, .rd b3 4 (some ⟨g, 0, none⟩) N (smCells L), .rd b3 1 (some ⟨ba, oa, none⟩) n (P.map cxv), .rd b3 1 (some ⟨bb, ob, none⟩) m (Q.map cxv)] ++ [.rd b4 1 (some ⟨gi, 0, none⟩) NM ((imgs L P).map cxv)]) w') => nearestTo_w Q (P.getD i (0, 0)) (some ⟨bb, ob, none⟩) m cb w' HLQ.out (by omega) (by omega) HQP.out hz (hS.rd 3 rfl))
      obtain ⟨k1, k2, k3, k4⟩ := nearT_ok HLQ.out (by omega) HQP.out hz
      have hT : Hid (toFar P Q (i + 1) = max x (nearT Q (P.getD i (0, 0))).2) := by rw [HX.out]; exact Lib.hid rfl
      have hxl : Hid (x < 2139095040) := by rw [HX.out]; exact Lib.hid (toFar_lt HLP.out HLQ.out (by omega) HPP.out HQP.out hi)
      have CP := Lib.hid (fun w' (hS : Held ([.low w, .rd b3 4 (some ⟨g, 0, none⟩) N (smCells L), .rd b3 1 (some ⟨ba, oa, none⟩) n (P.map cxv), .rd b3 1 (some ⟨bb, ob, none⟩) m (Q.map cxv)] ++ [.rd b4 1 (some ⟨gi, 0, none⟩) NM ((imgs L P).map cxv)]) w') => rd_cx (i := i) (hS.rd 2 rfl) HLP.out hlt)
      have CQ := Lib.hid (fun w' (hS : Held ([.low w, .rd b3 4 (some ⟨g, 0, none⟩) N (smCells L), .rd b3 1 (some ⟨ba, oa, none⟩) n (P.map cxv), .rd b3 1 (some ⟨bb, ob, none⟩) m (Q.map cxv)] ++ [.rd b4 1 (some ⟨gi, 0, none⟩) NM ((imgs L P).map cxv)]) w') j (hj : j < m) => rd_cx (i := j) (hS.rd 3 rfl) HLQ.out hj)
      have DJ := Lib.hid (fun j (hj : j < m) => dstT_spec hz (HQP.out _ (pl_mem HLQ.out hj)))
      have hiI : (i : Int) < (n : Int) := by omega
      obtain ⟨t, et⟩ : ∃ t, nearT Q (P.getD i (0, 0)) = t := ⟨_, rfl⟩
      rw [et] at NT k1 k2 k3 k4 hT
      obtain ⟨k, d⟩ := t
      simp only at NT k1 k2 k3 k4 hT
      have DK := DJ.out k k1
      have CQK := Lib.hid (fun w' hS => CQ.out w' hS k k1)
      have QK := rCSub DK.s1 DK.s2
      have LK := Lib.hid DK.lw.sp
      rw [show (dstT (P.getD i (0, 0)) (Q.getD k (0, 0))).2.2 = d from k2.symm] at LK
      have MJ : Hid (∀ j < m, d ≤ dst (P.getD i (0, 0)) (Q.getD j (0, 0))) := Lib.hid k3
      have HD := Lib.hid k4
      have SN := Lib.hid (fun w => snumber_w (plus_val k4).1 w)
      have hkm : (k : Int) < (m : Int) := by omega
      have hkd : decide ((k : Int) < 0) = false := decide_eq_false (by omega)
      have hkm2 : decide ((m : Int) ≤ (k : Int)) = false := decide_eq_false (by omega)
      have hkm3 : ¬ (m ≤ k) := by omega
      clear et k2 k3 k4 DK
      generalize (dstT (P.getD i (0, 0)) (Q.getD k (0, 0))).1 = u at *
      generalize (dstT (P.getD i (0, 0)) (Q.getD k (0, 0))).2.1 = v at *
      obtain ⟨z, ez⟩ : ∃ z, P.getD i (0, 0) = z := ⟨_, rfl⟩
      rw [ez] at NT CP DJ QK MJ hz
      have EZ := Lib.hid ez
      clear ez
      generalize Q.getD k (0, 0) = y at *
      obtain ⟨z1, z2⟩ := z
      obtain ⟨y1, y2⟩ := y
      simp only at NT CP CQK QK
      have cp := CP.out wr S.out
      have cq := CQK.out wr S.out
      go_wp2_with fail
      refine (NT.out wr S.out).mono ?_
      rintro e w6 ⟨rfl, hw6⟩
      obtain rfl := hw6.symm
      clear hw6
      go_wp2
      go_quiet (first
        | (go_at_call 17; exact Calls.quiet_of_same (LK.out _))
        | (go_at_call 35; exact Calls.quiet_of_same (SN.out _)))
      go_wp2
      clear cp cq QK hkd hkm2 hkm3 LK SN NT CQK
      go_loopw [177] (fun sj wk => ∃ j : Nat, j ≤ m ∧ sj = .int .i64 (j : Int) ∧ Hid (Held ([.low w, .rd b3 4 (some ⟨g, 0, none⟩) N (smCells L), .rd b3 1 (some ⟨ba, oa, none⟩) n (P.map cxv), .rd b3 1 (some ⟨bb, ob, none⟩) m (Q.map cxv)] ++ [.rd b4 1 (some ⟨gi, 0, none⟩) NM ((imgs L P).map cxv)]) wk)) (fun sj _ => m - (intOf sj).toNat)
      case atStart => exact ⟨0, Nat.zero_le _, rfl, Lib.hid (S.out.drewN _)⟩
      case round =>
        clear S
        obtain ⟨j, hj, rfl, S⟩ := hrel
        by_cases hlj : j < m
        · have DD := DJ.out j hlj
          have QJ := rCSub DD.s1 DD.s2
          have LJ := Lib.hid DD.lw.sp
          have hle := MJ.out j hlj
          obtain ⟨l, el⟩ : ∃ l, dst (z1, z2) (Q.getD j (0, 0)) = l := ⟨_, rfl⟩
          have hll : l < 2139095040 := by rw [← el]; exact DD.lw.lt
          rw [show (dstT (z1, z2) (Q.getD j (0, 0))).2.2 = l from el] at LJ
          rw [el] at hle
          have OL := ord_lt hll HD.out
          rw [decide_eq_false (show ¬ (l < d) by omega)] at OL
          have cp := CP.out wr S.out
          have cq := CQ.out wr S.out j hlj
          have hjI : (j : Int) < (m : Int) := by omega
          clear DD el hle
          generalize (dstT (z1, z2) (Q.getD j (0, 0))).1 = u' at *
          generalize (dstT (z1, z2) (Q.getD j (0, 0))).2.1 = v' at *
          generalize Q.getD j (0, 0) = y' at *
          obtain ⟨y1', y2'⟩ := y'
          simp only at cq QJ
          go_wp2
          go_quiet (first | (go_at_call 17; exact Calls.quiet_of_same (LJ.out _)))
          go_wp2
          go_roundw
          case rel => exact ⟨j + 1, by omega, by go_num, Lib.hid (S.out.drewN _)⟩
          case measure => simp [intOf]; omega
        · obtain rfl : j = m := by omega
          have MX := plus_max hxl.out HD.out
          go_wp2
          go_roundw
          case rel => exact ⟨i + 1, max x d, by omega, by go_num, rfl, Lib.hid hT.out.symm, S⟩
          case measure => simp [intOf]; omega
    · obtain rfl : i = n := by omega
      have hxl : x < 2139095040 := by rw [HX.out]; exact toFar_lt HLP.out HLQ.out (by omega) HPP.out HQP.out (Nat.le_refl _)
      have hxf : x ≤ far := by
        rw [HX.out, ← EF.out]
        unfold farN
        rw [HLP.out]
        exact Nat.le_max_left _ _
      have OF := ord_lt FPQ.out hxl
      rw [decide_eq_false (show ¬ (far < x) by omega)] at OF
      obtain ⟨w7, hw7⟩ : ∃ v, v = wr.alloc (.cells #[] 26) := ⟨_, rfl⟩
      obtain ⟨b7, eb7⟩ : ∃ b, wr.heap.size = b := ⟨_, rfl⟩
      have BEF : Hid (∀ f ∈ [.low w, .rd b3 4 (some ⟨g, 0, none⟩) N (smCells L), .rd b3 1 (some ⟨ba, oa, none⟩) i (P.map cxv), .rd b3 1 (some ⟨bb, ob, none⟩) m (Q.map cxv)] ++ [.rd b4 1 (some ⟨gi, 0, none⟩) NM ((imgs L P).map cxv)], Fact.before b7 f) := by rw [← eb7]; exact Lib.hid S.out.before
      have S7 : Hid (Held ([.low w, .rd b3 4 (some ⟨g, 0, none⟩) N (smCells L), .rd b3 1 (some ⟨ba, oa, none⟩) i (P.map cxv), .rd b3 1 (some ⟨bb, ob, none⟩) m (Q.map cxv)] ++ [.rd b4 1 (some ⟨gi, 0, none⟩) NM ((imgs L P).map cxv)]) w7) := by rw [hw7]; exact Lib.hid (S.out.below ((Below.refl _ _).alloc (Nat.le_refl _) _))
      obtain ⟨x0, hx0⟩ : ∃ x, L[0]? = some x := ⟨_, List.getElem?_eq_getElem (by have := HLL.out; omega)⟩
      have hxok : x0.ok N := HOK.out x0 (List.mem_of_getElem? hx0)
      have GC0 := smCells_get L 0 x0 hx0
      obtain ⟨xa, xb, xc, xd, xf, xs⟩ := x0
      simp only [Nat.zero_mul, Nat.zero_add] at GC0
      have GCH := Lib.hid GC0
      clear GC0
      have O7 : Hid (w7.ownsRow b7 26 1 (.slice (some ⟨b7, 0, none⟩) 0 0) 0 (((P.take 0).map (mpP ⟨xa, xb, xc, xd, xf, xs⟩)).map cxv)) := by
        rw [hw7, ← eb7]; exact (Blk.new wr _ _).own (n := 0) (size := 1) (Nat.le_refl _) rfl (by unfold maxLen; omega)
      have hb7 : b7 ≤ w7.heap.size := by rw [hw7, ← eb7]; simp
      have HX0 := Lib.hid hx0
      have HXO := Lib.hid hxok
      have CL := Lib.hid (fun w' (hS : Held ([.low w, .rd b3 4 (some ⟨g, 0, none⟩) N (smCells L), .rd b3 1 (some ⟨ba, oa, none⟩) i (P.map cxv), .rd b3 1 (some ⟨bb, ob, none⟩) m (Q.map cxv)] ++ [.rd b4 1 (some ⟨gi, 0, none⟩) NM ((imgs L P).map cxv)]) w') => (hS.rd 1 rfl))
      have E7 := Lib.hid hw7
      clear hxf hxl FPQ EF HX S hx0 hw7
      go_wp2
      rw [← E7.out]
      clear OF eb7
      go_loopw [26, 27, 203] (fun st ss sk wr => ∃ k g' c' : Nat, k ≤ i ∧ sk = .int .i64 (k : Int) ∧ st = .slice (some ⟨g', 0, none⟩) k c' ∧ ss = .bool (spB P k) ∧ Hid (wr.ownsRow b7 26 1 (.slice (some ⟨g', 0, none⟩) k c') k (((P.take k).map (mpP ⟨xa, xb, xc, xd, xf, xs⟩)).map cxv)) ∧ Hid (b7 ≤ wr.heap.size) ∧ Hid (Held ([.low w, .rd b3 4 (some ⟨g, 0, none⟩) N (smCells L), .rd b3 1 (some ⟨ba, oa, none⟩) i (P.map cxv), .rd b3 1 (some ⟨bb, ob, none⟩) m (Q.map cxv)] ++ [.rd b4 1 (some ⟨gi, 0, none⟩) NM ((imgs L P).map cxv)]) wr)) (fun _ _ sk _ => i - (intOf sk).toNat)
      case atStart => exact ⟨0, b7, 0, Nat.zero_le _, rfl, rfl, rfl, O7, Lib.hid hb7, S7⟩
      case round =>
        clear O7 S7 hb7 E7
        obtain ⟨k, g', c', hk, rfl, rfl, rfl, HO, HZ, S⟩ := hrel
        by_cases hlk : k < i
        · have hz := HPT.out _ (pl_mem HLP.out hlk)
          have MC := map0_w hN1 HXO.out hz
          have MPS := mpP_spec HXO.out hz
          have SCM := Lib.hid (fun w => scomplex_w MPS.g1.fin MPS.g2.fin w)
          obtain ⟨lw, lw1, lw2, _⟩ := apart_num hz (HPT.out _ (pl_mem HLP.out (show 0 < i by omega)))
          have D := dstT_spec (pt_pl hz) (pt_pl (HPT.out _ (pl_mem HLP.out (show 0 < i by omega))))
          have QS := rCSub D.s1 D.s2
          have LS := Lib.hid D.lw.sp
          have QW := rWide lw1
          have HAP : Hid ((FloatKind.f64.format.order lw tenth64 == some .gt) = apB P k) := Lib.hid lw2
          have IF := imgs_first (k := k) HX0.out (by rw [HLP.out]; exact hlk)
          have CI := Lib.hid (fun w' (hS : Held ([.low w, .rd b3 4 (some ⟨g, 0, none⟩) N (smCells L), .rd b3 1 (some ⟨ba, oa, none⟩) i (P.map cxv), .rd b3 1 (some ⟨bb, ob, none⟩) m (Q.map cxv)] ++ [.rd b4 1 (some ⟨gi, 0, none⟩) NM ((imgs L P).map cxv)]) w') => rd_cx (i := k) (hS.rd 4 rfl) HIL.out (by omega))
          rw [IF] at CI
          simp only [Nat.zero_add] at CI
          have CP := Lib.hid (fun w' (hS : Held ([.low w, .rd b3 4 (some ⟨g, 0, none⟩) N (smCells L), .rd b3 1 (some ⟨ba, oa, none⟩) i (P.map cxv), .rd b3 1 (some ⟨bb, ob, none⟩) m (Q.map cxv)] ++ [.rd b4 1 (some ⟨gi, 0, none⟩) NM ((imgs L P).map cxv)]) w') => rd_cx (i := k) (hS.rd 2 rfl) HLP.out hlk)
          have CP0 := Lib.hid (fun w' (hS : Held ([.low w, .rd b3 4 (some ⟨g, 0, none⟩) N (smCells L), .rd b3 1 (some ⟨ba, oa, none⟩) i (P.map cxv), .rd b3 1 (some ⟨bb, ob, none⟩) m (Q.map cxv)] ++ [.rd b4 1 (some ⟨gi, 0, none⟩) NM ((imgs L P).map cxv)]) w') => rd_cx (i := 0) (hS.rd 2 rfl) HLP.out (show 0 < i by omega))
          simp only [Nat.add_zero] at CP0
          have hN0 : 0 < N := hN1
          have hN0I : (0 : Int) < (N : Int) := by omega
          have hkNM : (k : Int) < (NM : Int) := by omega
          have hi0 : (0 : Int) < (i : Int) := by omega
          have hi0n : 0 < i := by omega
          have MT := Lib.hid (map_take (P := P) (f := mpP ⟨xa, xb, xc, xd, xf, xs⟩) (j := k) (by rw [HLP.out]; exact hlk))
          have hkI : (k : Int) < (i : Int) := by omega
          have ESP : Hid (spB P (k + 1) = (spB P k || apB P k)) := Lib.hid rfl
          unfold smallV at MC
          obtain ⟨z, ez⟩ : ∃ z, P.getD k (0, 0) = z := ⟨_, rfl⟩
          rw [ez] at MC SCM QS LS QW CI CP MT
          obtain ⟨r, er⟩ : ∃ r, mpP ⟨xa, xb, xc, xd, xf, xs⟩ z = r := ⟨_, rfl⟩
          rw [er] at MC SCM CI MT
          obtain ⟨y, ey⟩ : ∃ y, P.getD 0 (0, 0) = y := ⟨_, rfl⟩
          rw [ey] at QS LS QW CP0
          obtain ⟨sp, esp⟩ : ∃ b, spB P k = b := ⟨_, rfl⟩
          rw [esp] at ESP ⊢
          obtain ⟨ap, eap⟩ : ∃ b, apB P k = b := ⟨_, rfl⟩
          rw [eap] at ESP HAP
          obtain ⟨z1, z2⟩ := z
          obtain ⟨r1, r2⟩ := r
          obtain ⟨y1, y2⟩ := y
          have MCH := Lib.hid MC
          simp only at MCH SCM CI CP CP0 QS
          change ∀ w : World, (convert 27 40 (.float .f32 (dstT (z1, z2) (y1, y2)).2.2)).run Try.prog w = _ at QW
          generalize dstT (z1, z2) (y1, y2) = t at *
          obtain ⟨t1, t2, t3⟩ := t
          simp only at QS LS QW
          clear hz MC MPS D IF ez er ey esp eap lw1 lw2
          have SPH : Hid (∀ w', Below wr.heap.size wr w' → (w'.cell? ⟨g, 0, none⟩ = some (.complex .f32 xa xb) ∧ w'.cell? ⟨g, 1, none⟩ = some (.complex .f32 xc xd) ∧ w'.cell? ⟨g, 2, none⟩ = some (.bool xf) ∧ w'.cell? ⟨g, 3, none⟩ = some (.float .f32 xs) ∧ w'.cell? ⟨ba, oa + k, none⟩ = some (.complex .f32 z1 z2) ∧ Below wr.heap.size wr w')) := Lib.hid fun w' hb => by
            have T := S.out.below hb
            obtain ⟨b, off, e, _, hc⟩ := (T.rd 1 rfl).2 hN1
            obtain ⟨rfl, rfl⟩ : g = b ∧ 0 = off := by injection e with e; injection e with e1 e2; exact ⟨e1, e2⟩
            obtain ⟨q0, q1, q2, q3⟩ := GCH.out
            have k0 := hc _ _ q0
            have k1 := hc _ _ q1
            have k2 := hc _ _ q2
            have k3 := hc _ _ q3
            simp only [Nat.zero_add] at k0 k1 k2 k3
            exact ⟨k0, k1, k2, k3, CP.out w' T, hb⟩
          obtain ⟨v0, v1, v2, v3, v4, _⟩ := SPH.out wr (Below.refl _ _)
          go_wp2
          go_region_held3 (fun w' => w'.cell? ⟨g, 0, none⟩ = some (.complex .f32 xa xb) ∧ w'.cell? ⟨g, 1, none⟩ = some (.complex .f32 xc xd) ∧ w'.cell? ⟨g, 2, none⟩ = some (.bool xf) ∧ w'.cell? ⟨g, 3, none⟩ = some (.float .f32 xs) ∧ w'.cell? ⟨ba, oa + k, none⟩ = some (.complex .f32 z1 z2) ∧ Below wr.heap.size wr w')
            (first
              | exact SPH.out _ (Below.refl _ _).drew
              | exact SPH.out _ H6.out
              | go_keep)
            (first
              | (go_at_call 10; refine (MCH.out _).mono ?_; rintro e w6 ⟨rfl, hb6⟩
                 have H6 : Hid (Below wr.heap.size wr w6) := Lib.hid ((Below.refl wr.heap.size wr).drew.trans (hb6.mono (Nat.le_refl _)))
                 clear hb6))
          have S8 := Lib.hid (S.out.below H6.out)
          have O8 := Lib.hid (own_below HO.out H6.out)
          have Z8 : Hid (b7 ≤ w6.heap.size) := Lib.hid (Nat.le_trans HZ.out H6.out.size)
          have ci := CI.out w6 S8.out
          clear v0 v1 v2 v3 v4 SPH H6 HO S HZ MCH
          go_wp2_with fail
          refine (SCM.out _).mono ?_
          rintro e w5 ⟨rfl, hw5⟩
          obtain rfl := hw5.symm
          clear SCM ci CI
          go_wp2_with (first
            | (at_builtin; refine wpList_append_one (P := Try.prog) (W := w6) rfl _ _ _ rfl b7 26 (.complex .f32 0 0) 8 Try.underlying30 cxInfo rfl (some ⟨g', 0, none⟩) k c' _ rfl O8.out (.complex .f32 r1 r2) w6.heap.size rfl rfl rfl (by unfold maxLen; omega) (by omega) Z8.out ?_; intro A9 c9 w9 ho9 hg9 hd9)
            | fail)
          obtain ⟨g9, c9', e9, _, _⟩ := ho9.form (by omega)
          rw [e9] at ho9
          have S9 := Lib.hid (held_row S8.out hg9 (fun j e => (O8.out.lt j e).1) BEF.out)
          have Z9 : Hid (b7 ≤ w9.heap.size) := Lib.hid (Nat.le_trans Z8.out hg9.size)
          have O9 : Hid (w9.ownsRow b7 26 1 (.slice (some ⟨g9, 0, none⟩) (k + 1) c9') (k + 1) (((P.take (k + 1)).map (mpP ⟨xa, xb, xc, xd, xf, xs⟩)).map cxv)) := by
            rw [MT.out, List.map_append (l₂ := [(r1, r2)])]; exact Lib.hid ho9
          have E9 := Lib.hid e9
          have cp := CP.out w9 S9.out
          have cp0 := CP0.out w9 S9.out
          have hap : (FloatKind.f64.format.order lw 4591870180066957722 == some .gt) = ap := HAP.out
          clear ho9 hg9 hd9 e9 O8 S8 Z8 CP CP0 MT HAP
          cases sp
          · go_wp2
            go_quiet (first | (go_at_call 17; exact Calls.quiet_of_same (LS.out _)))
            go_wp2
            go_roundw
            case rel => exact ⟨k + 1, g9, c9', by omega, by go_num, by rw [E9.out], by rw [ESP.out]; first | rfl | simp, Lib.hid (own_below O9.out ⟨rfl, rfl, rfl, Nat.le_refl _, fun _ _ => rfl⟩), Z9, Lib.hid (S9.out.drewN _)⟩
            case measure => simp [intOf]; omega
          · go_wp2
            go_quiet (first | (go_at_call 17; exact Calls.quiet_of_same (LS.out _)))
            go_wp2
            go_roundw
            case rel => exact ⟨k + 1, g9, c9', by omega, by go_num, by rw [E9.out], by rw [ESP.out]; first | rfl | simp, Lib.hid (own_below O9.out ⟨rfl, rfl, rfl, Nat.le_refl _, fun _ _ => rfl⟩), Z9, Lib.hid (S9.out.drewN _)⟩
            case measure => simp [intOf]; omega
        · obtain rfl : i = k := by omega
          have SO := spread_or (x := ⟨xa, xb, xc, xd, xf, xs⟩) HLP.out (by omega) hnn.2 HPT.out
          have hsp : 1 / 32 ≤ sprR (fst_ (P.map (cjP xf))) (snd_ (P.map (cjP xf))) i i ∨ Flat (P.map (cjP xf)) i := by
            cases h : spB P i
            · exact .inr (SO.2 h)
            · exact .inl (SO.1 h).1
          have HSN : Hid (spB P i = true → ¬ Flat (P.map (cjP xf)) i) := Lib.hid fun h => (SO.1 h).2
          have HTT : Rd wr wr.heap.size 1 (some ⟨g', 0, none⟩) i ((P.map (mpP ⟨xa, xb, xc, xd, xf, xs⟩)).map cxv) := by
            have := HO.out
            rw [List.take_of_length_le (by rw [HLP.out]; exact Nat.le_refl _)] at this
            exact Rd.own this
          have FW := Lib.hid (fit_w (x := ⟨xa, xb, xc, xd, xf, xs⟩) P (some ⟨ba, oa, none⟩) (some ⟨g', 0, none⟩) i ca c' wr hN1 HXO.out HLP.out (by omega) hnn.2 HPT.out (S.out.rd 2 rfl) HTT hsp)
          have hN0 : 0 < N := hN1
          have hN0I : (0 : Int) < (N : Int) := by omega
          have LC4 : Hid (∀ w', Held ([.low w, .rd b3 4 (some ⟨g, 0, none⟩) N (smCells L), .rd b3 1 (some ⟨ba, oa, none⟩) i (P.map cxv), .rd b3 1 (some ⟨bb, ob, none⟩) m (Q.map cxv)] ++ [.rd b4 1 (some ⟨gi, 0, none⟩) NM ((imgs L P).map cxv)]) w' → w'.cell? ⟨g, 0, none⟩ = some (.complex .f32 xa xb) ∧ w'.cell? ⟨g, 1, none⟩ = some (.complex .f32 xc xd) ∧ w'.cell? ⟨g, 2, none⟩ = some (.bool xf)) := Lib.hid fun w' T => by
            obtain ⟨b, off, e, _, hc⟩ := (T.rd 1 rfl).2 hN1
            obtain ⟨rfl, rfl⟩ : g = b ∧ 0 = off := by injection e with e; injection e with e1 e2; exact ⟨e1, e2⟩
            obtain ⟨q0, q1, q2, q3⟩ := GCH.out
            have k0 := hc _ _ q0
            have k1 := hc _ _ q1
            have k2 := hc _ _ q2
            simp only [Nat.zero_add] at k0 k1 k2
            exact ⟨k0, k1, k2⟩
          obtain ⟨_, _, v2⟩ := LC4.out wr S.out
          obtain ⟨sp, esp⟩ : ∃ b, spB P i = b := ⟨_, rfl⟩
          rw [esp] at HSN ⊢
          clear SO hsp HTT esp HO HZ
          go_wp2_with fail
          refine FW.out.mono ?_
          rintro e w8 ⟨hb8, H8⟩
          have S8 := Lib.hid (S.out.below hb8)
          have B8 : Hid (Below w.heap.size w w8) := Lib.hid (S8.out.low 0 rfl).2
          clear hb8 FW S v2
          rcases H8 with ⟨_, a, b, c, d, l, rfl, FO⟩ | ⟨hfl, rfl⟩
          · obtain ⟨w9, ew9⟩ : ∃ v, v = w8.alloc (.cells #[.complex .f32 a b, .complex .f32 c d, .bool xf, .float .f32 1065353216] 29) := ⟨_, rfl⟩
            have R9 : Blk w9 w8.heap.size 29 #[.complex .f32 a b, .complex .f32 c d, .bool xf, .float .f32 1065353216] := by rw [ew9]; exact Blk.new _ _ _
            have S9 := S8.out.below (w' := w9) (by rw [ew9]; exact (Below.refl _ _).alloc (Nat.le_refl _) _)
            have B9 : Hid (Below w.heap.size w w9) := Lib.hid (S9.low 0 rfl).2
            obtain ⟨k0, k1, k2⟩ := LC4.out w9 S9
            have r0 := R9.cell 0
            have r1 := R9.cell 1
            have r2 := R9.cell 2
            obtain ⟨u1, v1, l1, lw1, s1, s2, LW1, W1, O1⟩ := cent_lt FO.fa FO.fb HXO.out.a.fin HXO.out.b.fin (in_mono FO.ia (by decide +kernel)) (in_mono FO.ib (by decide +kernel))
            obtain ⟨u2, v2, l2, lw2, s3, s4, LW2, W2, O2⟩ := cent_lt FO.fc FO.fd HXO.out.c.fin HXO.out.d.fin FO.ic FO.id
            obtain ⟨O3, o1, o2, h1, h2, h3⟩ := miss_ok FO.ll FO.il
            have Q1 := rCSub s1 s2
            have Q2 := rCSub s3 s4
            have L1 := Lib.hid LW1.sp
            have L2 := Lib.hid LW2.sp
            have K1 := rWide W1
            have K2 := rWide W2
            have E9 := Lib.hid ew9
            rw [ew9] at k0 k1 k2 r0 r1 r2
            change (FloatKind.f64.format.order lw1 4576918229304087675 == some .lt) = true at O1
            change (FloatKind.f64.format.order lw2 4576918229304087675 == some .lt) = true at O2
            simp only at Q1 Q2
            clear FO S9 S8 R9 ew9 s1 s2 s3 s4 LW1 LW2 W1 W2 HSN
            cases sp
            · clear k0 k1 k2 r0 r1 r2 Q1 Q2 K1 K2 O1 O2 O3 h1 h2 h3
              go_wp2
              go_ret
              rw [← E9.out]
              exact ⟨rfl, B9.out⟩
            · cases o1 <;> cases o2 <;> simp only [Bool.or_self, Bool.or_true, Bool.true_or, Bool.or_false, Bool.false_or, Bool.false_eq_true] at h3
              all_goals
                go_wp2
                go_quiet (first
                  | (go_at_call 17; with_reducible exact Calls.quiet_of_same (L1.out _))
                  | (go_at_call 17; with_reducible exact Calls.quiet_of_same (L2.out _)))
                go_wp2
                go_ret
                rw [← E9.out]
                exact ⟨by simp, ⟨B9.out.os, B9.out.tape, B9.out.output, B9.out.size, B9.out.block⟩⟩
          · unfold zSmall
            cases sp
            · go_wp2
              go_ret
              exact ⟨rfl, B8.out.alloc B8.out.size _⟩
            · exact absurd hfl (HSN.out rfl)
end Go.Proofs.Ytbpgbplepebcjaa

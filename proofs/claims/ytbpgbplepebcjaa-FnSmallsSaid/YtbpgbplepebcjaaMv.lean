/- Walk: the law FnSmalls: it returns true. Conditions: at most 2^20 bytes each (the longer ones apart). -/
import Derived.Test.YtbpgbplepebcjaaMu
import Derived.Test.YtbpgbplepebcjaaLc
namespace Go.Proofs.Ytbpgbplepebcjaa
open Go.RowKit
open Num Quick
attribute [local go_sem] run_store_fl run_store_cx

set_option maxRecDepth 100000 in
set_option maxHeartbeats 400000 in
theorem lawSm_long (A1 A2 : Option Addr) (n1 c1 n2 c2 : Nat) (w : World) (hn1 : n1 ≤ maxLen) (hn2 : n2 ≤ maxLen) (hbig : ¬ (n1 ≤ 1048576 ∧ n2 ≤ 1048576)) :
    Calls Try.prog 3 #[.slice A1 n1 c1, .slice A2 n2 c2] w fun e w' => e = .returned (.bool true) ∧ Below w.heap.size w w' := by
  have e : (decide (1048576 < n1) || decide (1048576 < n2)) = true := by
    by_cases h : n1 ≤ 1048576
    · have : 1048576 < n2 := by omega
      simp [this]
    · have : 1048576 < n1 := by omega
      simp [this]
  have LC := b10Long_any A1 A2 n1 c1 n2 c2 w hn1 hn2
  rw [e] at LC
  have LCH := Lib.hid LC
  clear LC e
  go_enter Try.func3, Try.ntmps3
  go_wp2_with fail
  refine LCH.out.mono ?_
  rintro e w1 ⟨rfl, rfl⟩
  go_wp2
  go_ret
  exact ⟨rfl, Below.refl _ _⟩
set_option maxRecDepth 100000 in
set_option maxHeartbeats 16000000 in
theorem lawSm_any (A1 A2 : Option Addr) (n1 c1 n2 c2 : Nat) (bs bs2 : List Nat) (w : World) (hn1 : n1 ≤ 1048576) (hn2 : n2 ≤ 1048576) (hc1 : n1 ≤ c1) (hc2 : n2 ≤ c2) (hbs : ∀ x ∈ bs, x < 256) (hbs2 : ∀ x ∈ bs2, x < 256) (hA : Rd w w.heap.size 1 A1 n1 (bs.map u8v)) (hA2 : Rd w w.heap.size 1 A2 n2 (bs2.map u8v)) :
    Calls Try.prog 3 #[.slice A1 n1 c1, .slice A2 n2 c2] w fun e w' => e = .returned (.bool true) ∧ Below w.heap.size w w' := by
  have LC := b10Long_any A1 A2 n1 c1 n2 c2 w (by unfold maxLen; omega) (by unfold maxLen; omega)
  rw [show (decide (1048576 < n1) || decide (1048576 < n2)) = false by simp; omega] at LC
  have LCH := Lib.hid LC
  have SC := Lib.hid (B10Smalls_any n1 c1 A1 bs w hn1 hc1 hbs hA)
  have HA2 := Lib.hid hA2
  have HB2 := Lib.hid hbs2
  clear LC hA hbs hA2 hbs2
  go_enter Try.func3, Try.ntmps3
  go_wp2_with fail
  refine LCH.out.mono ?_
  rintro e w0 ⟨rfl, hw0⟩
  obtain rfl := hw0.symm
  go_wp2_with fail
  refine SC.out.mono ?_
  intro e w1 hD
  obtain ⟨L, N, g, cc, rfl, hL, hN, hok, hR, hG⟩ := hD
  obtain ⟨m, hm⟩ : ∃ m, N = m + 1 := ⟨N - 1, by omega⟩
  have hN4 : N ≤ 4 := by omega
  have hN1 : 1 ≤ N := by omega
  obtain ⟨x, hx⟩ : ∃ x, L[0]? = some x := ⟨_, List.getElem?_eq_getElem (by omega)⟩
  obtain ⟨y, hy⟩ : ∃ y, L[m]? = some y := ⟨_, List.getElem?_eq_getElem (by omega)⟩
  have oX : x.ok N := hok x (List.mem_of_getElem? hx)
  have oY : y.ok N := hok y (List.mem_of_getElem? hy)
  rw [hL] at hR ⊢
  have RD := Rd.own hR
  obtain ⟨g', off', eg, hgb, hcell⟩ := RD.2 (by omega)
  obtain ⟨rfl, rfl⟩ : g = g' ∧ 0 = off' := by
    injection eg with e1
    injection e1 with e2 e3
    exact ⟨e2, e3⟩
  obtain ⟨p0, p1, p2_, p3⟩ := smCells_get L 0 x hx
  obtain ⟨q0, q1, q2, q3⟩ := smCells_get L m y hy
  have d0 : w1.cell? ⟨g, 0, none⟩ = some (.complex .f32 x.a x.b) := hcell _ _ p0
  have d1 : w1.cell? ⟨g, 1, none⟩ = some (.complex .f32 x.c x.d) := hcell _ _ p1
  have d2 : w1.cell? ⟨g, 2, none⟩ = some (.bool x.fl) := hcell _ _ p2_
  have d3 : w1.cell? ⟨g, 3, none⟩ = some (.float .f32 x.s) := hcell _ _ p3
  have i0 : w1.cell? ⟨g, m * 4, none⟩ = some (.complex .f32 y.a y.b) := by have := hcell _ _ q0; rwa [Nat.zero_add] at this
  have i1 : w1.cell? ⟨g, m * 4 + 1, none⟩ = some (.complex .f32 y.c y.d) := by have := hcell _ _ q1; rwa [Nat.zero_add] at this
  have i2 : w1.cell? ⟨g, m * 4 + 2, none⟩ = some (.bool y.fl) := by have := hcell _ _ q2; rwa [Nat.zero_add] at this
  have i3 : w1.cell? ⟨g, m * 4 + 3, none⟩ = some (.float .f32 y.s) := by have := hcell _ _ q3; rwa [Nat.zero_add] at this
  have RDH := Lib.hid RD
  have HL := Lib.hid hL
  have HOK := Lib.hid hok
  have HN := Lib.hid hN
  have OX := Lib.hid oX
  have OY := Lib.hid oY
  have G1 := Lib.hid hG
  have hmi : (N : Int) - 1 = (m : Int) := by omega
  have hmN : (m : Int) < (N : Int) := by omega
  have hgne : g ≠ w1.heap.size := by omega
  obtain ⟨v2, ev2⟩ : ∃ v2, v2 = w1.alloc (.cells (smallC x.a x.b x.c x.d x.fl x.s) 29) := ⟨_, rfl⟩
  obtain ⟨v3, ev3⟩ : ∃ v3, v3 = v2.alloc (.cells (smallC y.a y.b y.c y.d y.fl y.s) 29) := ⟨_, rfl⟩
  have hz3 : v3.heap.size = w1.heap.size + 1 + 1 := by rw [ev3, ev2]; simp
  have X3 : Hid (Blk v3 w1.heap.size 29 (smallC x.a x.b x.c x.d x.fl x.s)) := by rw [ev3, ev2]; exact (Blk.new _ _ _).alloc _
  have Y3 : Hid (Blk v3 (w1.heap.size + 1) 29 (smallC y.a y.b y.c y.d y.fl y.s)) := by rw [ev3]; exact Blk.at_ _ _ _ (by rw [ev2]; simp)
  have W3 : Hid (Below w1.heap.size w1 v3) := by rw [ev3, ev2]; exact ((Below.refl _ _).alloc (Nat.le_refl _) _).alloc (by simp) _
  have PT := Lib.hid (B10Points_any n2 c2 1 A2 bs2 v3 (by omega) hn2 hc2 HB2.out ((HA2.out.below (hG.trans (W3.out.mono hG.size))).more (by have := hG.size; omega)))
  have HZ3 := Lib.hid hz3
  have E2 := Lib.hid ev2
  have E3 := Lib.hid ev3
  unfold smallC at E2 E3
  clear hG hx hy oX oY hL hok hN hR RD eg hcell p0 p1 p2_ p3 q0 q1 q2 q3 ev2 ev3 hz3 SC LCH HA2 HB2 hm
  go_wp2_with fail
  rw [← E2.out, ← E3.out]
  refine PT.out.mono ?_
  rintro e w4 ⟨Z, Az, cz, rfl, hZ, hZok, hZr, hb4⟩
  obtain ⟨z, rfl⟩ : ∃ z, Z = [z] := by
    rcases Z with _ | ⟨z, _ | ⟨z', Z⟩⟩
    · simp at hZ
    · exact ⟨z, rfl⟩
    · simp at hZ
  obtain ⟨gz, oz, rfl, hgz, hcz⟩ := (Rd.own hZr).2 (by simp)
  have z0 : w4.cell? ⟨gz, oz, none⟩ = some (.complex .f32 z.1 z.2) := by have := hcz 0 _ rfl; rwa [Nat.add_zero] at this
  obtain ⟨wu, wv, bu, bv, P, Q, U, V, X, fu, fw, tu, tv, au, av, ru, rv, su, sv, F1, F2, F3, F4, F5, F6, F7, F8, F9, F10, k1, k2, k3⟩ := (asked_all (by have := HN.out; omega) OX.out OY.out (hZok z (by simp))).get
  -- the differences
  have zz : (0 : Rat) ≤ 1 / 131072 := by decide +kernel
  have hz1 := hZok z (by simp)
  obtain ⟨a1, a2, a3, a4, A1', A2', A3', A4', A5', A6'⟩ := short_num k1.1 k1.2.1 hz1.1.fin hz1.2.fin (by rw [k1.2.2.1]; unfold InR; constructor <;> grind) (by rw [k1.2.2.2]; unfold InR; constructor <;> grind)
  obtain ⟨b1, b2, b3, b4, B1', B2', B3', B4', B5', B6'⟩ := short_num k2.1 k2.2.1 k2.2.2.1 k2.2.2.2.1 (by rw [k2.2.2.2.2.1]; unfold InR; constructor <;> grind) (by rw [k2.2.2.2.2.2]; unfold InR; constructor <;> grind)
  obtain ⟨d1', d2', d3', d4', D1', D2', D3', D4', D5', D6'⟩ := short_num k3.1 k3.2.1 k3.2.2.1 k3.2.2.2.1 k3.2.2.2.2.2.2.1 k3.2.2.2.2.2.2.2
  have l1 := short_lt A4' A6'
  have l2 := short_lt B4' B6'
  obtain ⟨l4, _, L2, L3⟩ := long_num k3.2.2.1 k3.2.2.2.1 (in_mono k3.2.2.2.2.1 (by decide +kernel)) (in_mono k3.2.2.2.2.2.1 (by decide +kernel))
  have b6 : Num.fv .f32 l4 ≤ 100 := by
    have r := rep_nat .f32 100 (by decide)
    have e1 := prod_in k3.2.2.2.2.1 k3.2.2.2.2.1 (by decide)
    have e2 := prod_in k3.2.2.2.2.2.1 k3.2.2.2.2.2.1 (by decide)
    have e3 : (6 : Rat) * 6 + 6 * 6 ≤ ((100 : Int) : Rat) * ((100 : Int) : Rat) := by decide +kernel
    exact L3.le _ r (by decide) (by have := e1.1; have := e2.1; grind)
  obtain ⟨q4, Q1, Q2, Q3, Q4⟩ := fwide L3.fin
  have n0 := L3.nonneg
  have t101 : (101 : Rat) ≤ top := by decide +kernel
  obtain ⟨q5, Q5, Q6⟩ := fadd one64_num.1 Q2 (by rw [one64_num.2, Q4]; grind) (by rw [one64_num.2, Q4]; grind)
  rw [one64_num.2, Q4] at Q6
  have q51 := Q6.ge_int 1 (by decide) (by have e1 : ((1 : Int) : Rat) = 1 := rfl
                                          rw [e1]; grind)
  have q52 := Q6.le_int 101 (by decide) (by have e1 : ((101 : Int) : Rat) = 101 := rfl
                                            rw [e1]; grind)
  have e101 : ((101 : Int) : Rat) = 101 := rfl
  have e1' : ((1 : Int) : Rat) = 1 := rfl
  rw [e101] at q52
  rw [e1'] at q51
  have kk := kilo64_num
  have pr1 : Num.fv .f64 kilo64 * 1 ≤ Num.fv .f64 kilo64 * Num.fv .f64 q5 := Rat.mul_le_mul_of_nonneg_left q51 (by have := kk.2.1; have e : (0 : Rat) ≤ 1 / 1024 := by decide +kernel
                                                                                                                   grind)
  have pr2 := prod_in (show InR (Num.fv .f64 kilo64) 1 by unfold InR; have e : (0 : Rat) ≤ 1 / 1024 := by decide +kernel
                                                          grind) (show InR (Num.fv .f64 q5) 101 by unfold InR; grind) (by decide)
  have e11 : (1 : Rat) * 101 = 101 := by decide +kernel
  rw [e11] at pr2
  obtain ⟨q6, Q7, Q8⟩ := fmul kk.1 Q6.fin (in_mono pr2 t101).1 (in_mono pr2 t101).2
  have q61 : 1 / 1024 ≤ Num.fv .f64 q6 := by
    have r := rep_frac .f64 1 10 (by decide) (by decide)
    have e2 : ((1 : Int) : Rat) / ((2 ^ 10 : Nat) : Rat) = 1 / 1024 := by decide +kernel
    rw [e2] at r
    exact Q8.ge _ r (by have := kk.2.1; grind)
  have l3 := (lt_cmp D4' Q8.fin (by have e : (1 / 65536 : Rat) < 1 / 1024 := by decide +kernel
                                    grind)).1
  have w5 := r64 Q5
  have w6 := r64 Q7
  have w7 := rWide Q1
  obtain ⟨jf, ejf⟩ : ∃ jf : Bool, (x.fl != y.fl) = jf := ⟨_, rfl⟩
  rw [ejf] at F3 F6 F10
  have hjf : (jf == jf) = true := by simp
  have F1 := Lib.hid F1
  have F2 := Lib.hid F2
  have F3 := Lib.hid F3
  have F4 := Lib.hid F4
  have F5 := Lib.hid F5
  have F6 := Lib.hid F6
  have F7 := Lib.hid F7
  have F8 := Lib.hid F8
  have F9 := Lib.hid F9
  have F10 := Lib.hid F10
  have A2' := Lib.hid A2'
  have B2' := Lib.hid B2'
  have D2' := Lib.hid D2'
  have L2 := Lib.hid L2
  have AS := Lib.hid (fun (w' : World) (hR : Rd w' w'.heap.size 4 (some ⟨g, 0, none⟩) N (smCells L)) => areSmalls_ok L N (some ⟨g, 0, none⟩) cc w' HL.out HN.out HOK.out hR)
  have SS := Lib.hid (fun (w' : World) (hR : Rd w' w'.heap.size 4 (some ⟨g, 0, none⟩) N (smCells L)) => sameSmalls_self L N (some ⟨g, 0, none⟩) cc w' HL.out hN1 hN4 HOK.out hR)
  -- what is kept
  have K3 : Hid (∀ w', Below (w1.heap.size + 1 + 1) v3 w' → SmC w' w1.heap.size x.a x.b x.c x.d x.fl x.s ∧ SmC w' (w1.heap.size + 1) y.a y.b y.c y.d y.fl y.s) := fun w' hb => ⟨(X3.out.below hb (by omega)).smC, (Y3.out.below hb (by omega)).smC⟩
  have G4 : Hid (Below (w1.heap.size + 1 + 1) v3 w4) := hb4.mono (by have := HZ3.out; omega)
  have ZS : Hid (w1.heap.size + 1 + 1 ≤ v3.heap.size) := by have := HZ3.out; unfold Hid; omega
  clear d0 d1 d2 d3 i0 i1 i2 i3 k1 k2 k3 hz1 hZ hZok hZr hb4 hcz hgz zz A4' A5' A6' B4' B5' B6' D4' D5' D6' L3 b6 Q1 Q2 Q3 Q4 n0 t101 Q5 Q6 q51 q52 e101 e1' kk pr1 pr2 e11 Q7 Q8 q61 PT E2 E3 OX OY HOK HL
  obtain ⟨⟨c0, c1, c2, c3⟩, e0, e1, e2, e3⟩ := K3.out w4 G4.out
  go_wp2_with fail
  refine (F1.out _).mono ?_
  rintro e x1 ⟨rfl, hb⟩
  have H1 := Lib.hid (G4.out.trans (hb.mono (Nat.le_trans ZS.out G4.out.size)))
  clear c0 c1 c2 c3 e0 e1 e2 e3 hb
  clear z0
  obtain ⟨⟨c0, c1, c2, c3⟩, e0, e1, e2, e3⟩ := K3.out x1 H1.out
  go_wp2_with fail
  refine (F2.out _).mono ?_
  rintro e x2 ⟨rfl, hb⟩
  have H2 := Lib.hid (H1.out.trans (hb.mono (Nat.le_trans ZS.out H1.out.size)))
  clear c0 c1 c2 c3 e0 e1 e2 e3 hb
  obtain ⟨⟨c0, c1, c2, c3⟩, e0, e1, e2, e3⟩ := K3.out x2 H2.out
  go_wp2_with fail
  refine (F3.out _).mono ?_
  rintro e x3 ⟨rfl, hb⟩
  have H3 := Lib.hid (H2.out.trans (hb.mono (Nat.le_trans ZS.out H2.out.size)))
  clear c0 c1 c2 c3 e0 e1 e2 e3 hb
  obtain ⟨v4, ev4⟩ : ∃ v4, v4 = x3.alloc (.cells (smallC P Q U V jf X) 29) := ⟨_, rfl⟩
  have hz4 : v4.heap.size = x3.heap.size + 1 := by rw [ev4]; simp
  have T4 : Hid (Below (w1.heap.size + 1 + 1) v3 v4) := by rw [ev4]; exact H3.out.alloc (Nat.le_trans ZS.out H3.out.size) _
  have J4 : Hid (Blk v4 x3.heap.size 29 (smallC P Q U V jf X)) := by rw [ev4]; exact Blk.new _ _ _
  have hx3 : w1.heap.size + 1 + 1 ≤ x3.heap.size := Nat.le_trans ZS.out H3.out.size
  have K4 : Hid (∀ w', Below (x3.heap.size + 1) v4 w' → SmC w' w1.heap.size x.a x.b x.c x.d x.fl x.s ∧ SmC w' (w1.heap.size + 1) y.a y.b y.c y.d y.fl y.s ∧ SmC w' x3.heap.size P Q U V jf X) := fun w' hb => by
    have h1 := K3.out w' (T4.out.trans (hb.mono (by omega)))
    exact ⟨h1.1, h1.2, (J4.out.below hb (by omega)).smC⟩
  have G0 : Hid (Below (x3.heap.size + 1) v4 v4) := Below.refl _ _
  have Z4 : Hid (x3.heap.size + 1 ≤ v4.heap.size) := by unfold Hid; omega
  have E4 := Lib.hid ev4
  unfold smallC at E4
  unfold smallV
  clear ev4 hz4
  obtain ⟨⟨c0, c1, c2, c3⟩, ⟨e0, e1, e2, e3⟩, j0, j1, j2, j3⟩ := K4.out v4 G0.out
  rw [E4.out] at c0 c1 c2 c3 e0 e1 e2 e3 j0 j1 j2 j3
  obtain ⟨⟨m0, m1, m2, m3⟩, n0, n1', n2', n3⟩ := K3.out x3 H3.out
  go_wp2_with fail
  rw [← E4.out]
  refine (F4.out _).mono ?_
  rintro e y1 ⟨rfl, hb⟩
  have I1 := Lib.hid (G0.out.trans (hb.mono (Nat.le_trans Z4.out G0.out.size)))
  clear c0 c1 c2 c3 e0 e1 e2 e3 j0 j1 j2 j3 hb
  clear m0 m1 m2 m3 n0 n1' n2' n3
  obtain ⟨⟨c0, c1, c2, c3⟩, ⟨e0, e1, e2, e3⟩, j0, j1, j2, j3⟩ := K4.out y1 I1.out
  go_wp2_with fail
  refine (F5.out _).mono ?_
  rintro e y2 ⟨rfl, hb⟩
  have I2 := Lib.hid (I1.out.trans (hb.mono (Nat.le_trans Z4.out I1.out.size)))
  clear c0 c1 c2 c3 e0 e1 e2 e3 j0 j1 j2 j3 hb
  obtain ⟨⟨c0, c1, c2, c3⟩, ⟨e0, e1, e2, e3⟩, j0, j1, j2, j3⟩ := K4.out y2 I2.out
  go_wp2_with fail
  refine (F6.out _).mono ?_
  rintro e y3 ⟨rfl, hb⟩
  have I3 := Lib.hid (I2.out.trans (hb.mono (Nat.le_trans Z4.out I2.out.size)))
  clear c0 c1 c2 c3 e0 e1 e2 e3 j0 j1 j2 j3 hb
  obtain ⟨⟨c0, c1, c2, c3⟩, ⟨e0, e1, e2, e3⟩, j0, j1, j2, j3⟩ := K4.out y3 I3.out
  go_wp2_with fail
  refine (F7.out _).mono ?_
  rintro e y4 ⟨rfl, hb⟩
  have I4 := Lib.hid (I3.out.trans (hb.mono (Nat.le_trans Z4.out I3.out.size)))
  clear c0 c1 c2 c3 e0 e1 e2 e3 j0 j1 j2 j3 hb
  obtain ⟨⟨c0, c1, c2, c3⟩, ⟨e0, e1, e2, e3⟩, j0, j1, j2, j3⟩ := K4.out y4 I4.out
  go_wp2_with fail
  refine (F8.out _).mono ?_
  rintro e y5 ⟨rfl, hb⟩
  have I5 := Lib.hid (I4.out.trans (hb.mono (Nat.le_trans Z4.out I4.out.size)))
  clear c0 c1 c2 c3 e0 e1 e2 e3 j0 j1 j2 j3 hb
  obtain ⟨⟨c0, c1, c2, c3⟩, ⟨e0, e1, e2, e3⟩, j0, j1, j2, j3⟩ := K4.out y5 I5.out
  go_wp2_with fail
  refine (AS.out _ (RDH.out.below (W3.out.trans ((T4.out.mono (by omega)).trans (I5.out.mono (by omega)))) |>.more (Nat.le_trans W3.out.size (Nat.le_trans T4.out.size I5.out.size)))).mono ?_
  rintro e y6 ⟨rfl, hb⟩
  have I6 := Lib.hid (I5.out.trans (hb.mono (Nat.le_trans Z4.out I5.out.size)))
  clear c0 c1 c2 c3 e0 e1 e2 e3 j0 j1 j2 j3 hb
  obtain ⟨⟨c0, c1, c2, c3⟩, ⟨e0, e1, e2, e3⟩, j0, j1, j2, j3⟩ := K4.out y6 I6.out
  go_wp2_with fail
  refine (F9.out _).mono ?_
  rintro e y7 ⟨rfl, hb⟩
  have I7 := Lib.hid (I6.out.trans (hb.mono (Nat.le_trans Z4.out I6.out.size)))
  clear c0 c1 c2 c3 e0 e1 e2 e3 j0 j1 j2 j3 hb
  obtain ⟨⟨c0, c1, c2, c3⟩, ⟨e0, e1, e2, e3⟩, j0, j1, j2, j3⟩ := K4.out y7 I7.out
  go_wp2_with fail
  refine (F10.out _).mono ?_
  rintro e y8 ⟨rfl, hb⟩
  have I8 := Lib.hid (I7.out.trans (hb.mono (Nat.le_trans Z4.out I7.out.size)))
  clear c0 c1 c2 c3 e0 e1 e2 e3 j0 j1 j2 j3 hb
  obtain ⟨⟨c0, c1, c2, c3⟩, ⟨e0, e1, e2, e3⟩, j0, j1, j2, j3⟩ := K4.out y8 I8.out
  go_wp2_with fail
  refine (SS.out _ (RDH.out.below (W3.out.trans ((T4.out.mono (by omega)).trans (I8.out.mono (by omega)))) |>.more (Nat.le_trans W3.out.size (Nat.le_trans T4.out.size I8.out.size)))).mono ?_
  rintro e y9 ⟨rfl, hb⟩
  have I9 := Lib.hid (I8.out.trans (hb.mono (Nat.le_trans Z4.out I8.out.size)))
  clear c0 c1 c2 c3 e0 e1 e2 e3 j0 j1 j2 j3 hb
  obtain ⟨⟨c0, c1, c2, c3⟩, ⟨e0, e1, e2, e3⟩, j0, j1, j2, j3⟩ := K4.out y9 I9.out
  go_wp2_with fail
  refine (A2'.out _).mono ?_
  rintro e yy ⟨rfl, hw⟩
  obtain rfl := hw.symm
  go_wp2_with fail
  refine (B2'.out _).mono ?_
  rintro e yy ⟨rfl, hw⟩
  obtain rfl := hw.symm
  go_wp2_with fail
  refine (D2'.out _).mono ?_
  rintro e yy ⟨rfl, hw⟩
  obtain rfl := hw.symm
  go_wp2_with fail
  refine (L2.out _).mono ?_
  rintro e yy ⟨rfl, hw⟩
  obtain rfl := hw.symm
  go_wp2
  rotate_left
  · rename_i hne
    exact absurd (by rw [← ejf]; cases x.fl <;> cases y.fl <;> rfl) hne
  go_ret
  exact ⟨rfl, G1.out.trans ((W3.out.trans ((T4.out.mono (by omega)).trans (I9.out.mono (by omega)))).mono G1.out.size)⟩
end Go.Proofs.Ytbpgbplepebcjaa

/- Walk: NearEscape, where nothing parts the orbits. Conditions: a row of bounded numbers. -/
import Derived.Test.YtjmidicidgaapaaEi
import Derived.Test.YtjmidicidgaapaaMem
namespace Go.Proofs.Ytjmidicidgaapaa
open Go.RowKit
open Num Quick
attribute [local go_sem] run_store_fl run_store_cx

theorem row_cx {f : Nat → Nat × Nat} {n k : Nat} (h : k < n) : ((List.range n).map (fun i => cxv (f i)))[k]? = some (.complex .f32 (f k).1 (f k).2) := range_map_get (fun i => cxv (f i)) h
theorem finiteF {B : Rat} {z : Nat × Nat} (h : Cb B z) (w : World) : Calls Try.prog 59 #[.complex .f32 z.1 z.2] w fun e w' => e = .returned (.bool false) ∧ w' = w := by
  have F := Lib.hid (fun w => finiteC_num h.1 h.2.1 w)
  clear h
  go_enter Try.func59, Try.ntmps59
  go_wp2_with fail
  refine (F.out _).mono ?_
  rintro e w1 ⟨rfl, hw1⟩
  obtain rfl := hw1.symm
  go_wp2
  try go_ret
  exact ⟨rfl, rfl⟩
theorem indexF {B : Rat} (f : Nat → Nat × Nat) (A : Option Addr) (n c : Nat) (w : World) (hn2 : n ≤ 256) (hP : ∀ k, k < n → Cb B (f k)) (hA : Rd w w.heap.size 1 A n ((List.range n).map (fun i => cxv (f i)))) :
    Calls Try.prog 66 #[.slice A n c, .func (.func 59) #[] #[]] w fun e w' => e = .returned (.int .i64 (-1)) ∧ w' = w := by
  have HA := Lib.hid hA
  have HPP := Lib.hid hP
  clear hA hP
  go_enter Try.func66, Try.ntmps66
  go_wp2
  go_loop [8] (fun si => ∃ k : Nat, k ≤ n ∧ si = .int .i64 k) (fun i => n - (intOf i).toNat)
  case atStart => exact ⟨0, Nat.zero_le _, rfl⟩
  case round =>
    obtain ⟨k, hk, rfl⟩ := hrel
    by_cases hlt : k < n
    · obtain ⟨b, off, rfl, hbb, hc⟩ := HA.out.2 (by omega)
      have cY := hc k _ (row_cx hlt)
      have PY := Lib.hid (finiteF (HPP.out _ hlt))
      clear hc
      generalize f k = y at *
      obtain ⟨y1, y2⟩ := y
      simp only at cY PY
      have hkI : (k : Int) < (n : Int) := Int.ofNat_lt.mpr hlt
      go_wp2_with (go_at_call 59; refine (PY.out _).mono ?_; rintro e w5 ⟨rfl, hw5⟩; obtain rfl := hw5.symm)
      go_round
      case rel => exact ⟨k + 1, by omega, by go_num⟩
      case measure => simp [intOf]; omega
    · obtain rfl : k = n := by omega
      go_wp2
      go_ret
      simp
theorem areFiniteF {B : Rat} (f : Nat → Nat × Nat) (A : Option Addr) (n c : Nat) (w : World) (hn2 : n ≤ 256) (hP : ∀ k, k < n → Cb B (f k)) (hA : Rd w w.heap.size 1 A n ((List.range n).map (fun i => cxv (f i)))) :
    Calls Try.prog 41 #[.slice A n c] w fun e w' => e = .returned (.bool true) ∧ w' = w := by
  have IC := Lib.hid (indexF f A n c w hn2 hP hA)
  have CC : Hid (Calls Try.prog 58 #[.slice A n c, .func (.func 59) #[] #[]] w fun e w' => e = .returned (.bool false) ∧ w' = w) := by
    refine Lib.hid ?_
    clear hP hA
    go_enter Try.func58, Try.ntmps58
    go_wp2_with fail
    refine IC.out.mono ?_
    rintro e w1 ⟨rfl, rfl⟩
    go_wp2
    go_ret
    simp
  clear hP hA IC
  go_enter Try.func41, Try.ntmps41
  go_wp2_with fail
  refine CC.out.mono ?_
  rintro e w1 ⟨rfl, rfl⟩
  go_wp2
  go_ret
  exact ⟨rfl, rfl⟩
/-- A number that is zero (of either sign). -/
structure Zr (e : Nat × Nat) : Prop where
  f1 : Fl .f32 e.1
  f2 : Fl .f32 e.2
  v1 : Num.fv .f32 e.1 = 0
  v2 : Num.fv .f32 e.2 = 0
theorem zr0 : Zr (0, 0) := ⟨c0.1, c0.1, c0.2, c0.2⟩
theorem rnd0 {w : Nat} (h : Num.FR .f32 0 w) : Num.fv .f32 w = 0 := by
  have := h.le_int 0 (by decide) (by rw [Rat.intCast_zero]; exact Rat.le_refl)
  have := h.ge_int 0 (by decide) (by rw [Rat.intCast_zero]; exact Rat.le_refl)
  rw [Rat.intCast_zero] at *
  grind
theorem flush_w {x : Nat} (hf : Fl .f32 x) (hv : Num.fv .f32 x = 0) (w : World) : Calls Try.prog 45 #[.float .f32 x] w fun e w' => e = .returned (.float .f32 x) ∧ w' = w := by
  have c := c0
  have k1 : FloatKind.f32.format.order x 0 = some .eq := cmp_eq' hf c.1 (by rw [hv, c.2])
  have SU : Hid (∀ w : World, Calls Try.prog 61 #[.float .f32 x] w fun e w' => e = .returned (.bool false) ∧ w' = w) := by
    refine Lib.hid fun w => ?_
    clear hf hv c
    go_enter Try.func61, Try.ntmps61
    go_wp2
    try go_ret
    exact ⟨by simp, rfl⟩
  clear hf hv c k1
  go_enter Try.func45, Try.ntmps45
  go_wp2_with fail
  refine (SU.out _).mono ?_
  rintro e w1 ⟨rfl, hw1⟩
  obtain rfl := hw1.symm
  go_wp2
  try go_ret
  exact ⟨rfl, rfl⟩
/-- What one round meets. -/
theorem near_step {o e : Nat × Nat} (ho : Cb ((110 : Nat) : Rat) o) (he : Zr e) : ∃ a d m s t r : Nat × Nat,
    (∀ w : World, Calls Try.prog 43 #[.complex .f32 o.1 o.2, .complex .f32 e.1 e.2] w fun x w' => x = .returned (.complex .f32 a.1 a.2) ∧ w' = w) ∧ (∀ w : World, Calls Try.prog 42 #[.complex .f32 a.1 a.2] w fun x w' => x = .returned (.bool (out o)) ∧ w' = w) ∧
    (∀ w : World, Calls Try.prog 43 #[.complex .f32 o.1 o.2, .complex .f32 o.1 o.2] w fun x w' => x = .returned (.complex .f32 d.1 d.2) ∧ w' = w) ∧ (∀ w : World, Calls Try.prog 44 #[.complex .f32 d.1 d.2, .complex .f32 e.1 e.2] w fun x w' => x = .returned (.complex .f32 m.1 m.2) ∧ w' = w) ∧
    (∀ w : World, Calls Try.prog 44 #[.complex .f32 e.1 e.2, .complex .f32 e.1 e.2] w fun x w' => x = .returned (.complex .f32 s.1 s.2) ∧ w' = w) ∧ (∀ w : World, Calls Try.prog 43 #[.complex .f32 m.1 m.2, .complex .f32 s.1 s.2] w fun x w' => x = .returned (.complex .f32 t.1 t.2) ∧ w' = w) ∧
    (∀ w : World, Calls Try.prog 43 #[.complex .f32 t.1 t.2, .complex .f32 0 0] w fun x w' => x = .returned (.complex .f32 r.1 r.2) ∧ w' = w) ∧ Zr r := by
  have mm : (0 : Rat) ≤ mid := by decide +kernel
  have tt : (0 : Rat) ≤ top := by decide +kernel
  have i0 : InR (0 : Rat) mid := by unfold InR; constructor <;> grind
  have t0 : InR (0 : Rat) top := by unfold InR; constructor <;> grind
  obtain ⟨e1, e2, v1, v2⟩ := he
  have it1 := small_top ho.2.2.1 (by omega)
  have it2 := small_top ho.2.2.2 (by omega)
  obtain ⟨a1, a2, A, ra1, ra2⟩ := add_num ho.1 ho.2.1 e1 e2 (by rw [v1, Rat.add_zero]; exact it1) (by rw [v2, Rat.add_zero]; exact it2)
  rw [v1, Rat.add_zero] at ra1
  rw [v2, Rat.add_zero] at ra2
  have va1 := ra1.exact _ (rep_val _ ho.1)
  have va2 := ra2.exact _ (rep_val _ ho.2.1)
  have ha : Cb ((110 : Nat) : Rat) (a1, a2) := ⟨ra1.fin, ra2.fin, by show InR (Num.fv .f32 a1) _; unfold Num.fv; rw [va1]; exact ho.2.2.1, by show InR (Num.fv .f32 a2) _; unfold Num.fv; rw [va2]; exact ho.2.2.2⟩
  have hout : out (a1, a2) = out o := by unfold out; rw [pw_same (z := (a1, a2)) (z' := o) va1 va2]
  obtain ⟨⟨d1, d2⟩, D, _, _, hd⟩ := add_cb ho ho (by omega)
  obtain ⟨m1, m2, M, rm1, rm2⟩ := mul_num hd.1 hd.2.1 e1 e2 (small_mid hd.2.2.1 (by omega)) (small_mid hd.2.2.2 (by omega)) (by rw [v1]; exact i0) (by rw [v2]; exact i0)
  obtain ⟨s1, s2, S, rs1, rs2⟩ := mul_num e1 e2 e1 e2 (by rw [v1]; exact i0) (by rw [v2]; exact i0) (by rw [v1]; exact i0) (by rw [v2]; exact i0)
  simp only [v1, v2, Rat.mul_zero, Rat.sub_self, Rat.add_zero] at rm1 rm2 rs1 rs2
  have vm1 := rnd0 rm1
  have vm2 := rnd0 rm2
  have vs1 := rnd0 rs1
  have vs2 := rnd0 rs2
  obtain ⟨t1, t2, T, rt1, rt2⟩ := add_num rm1.fin rm2.fin rs1.fin rs2.fin (by rw [vm1, vs1, Rat.add_zero]; exact t0) (by rw [vm2, vs2, Rat.add_zero]; exact t0)
  rw [vm1, vs1, Rat.add_zero] at rt1
  rw [vm2, vs2, Rat.add_zero] at rt2
  have vt1 := rnd0 rt1
  have vt2 := rnd0 rt2
  obtain ⟨r1, r2, R, rr1, rr2⟩ := add_num rt1.fin rt2.fin c0.1 c0.1 (by rw [vt1, c0.2, Rat.add_zero]; exact t0) (by rw [vt2, c0.2, Rat.add_zero]; exact t0)
  rw [vt1, c0.2, Rat.add_zero] at rr1
  rw [vt2, c0.2, Rat.add_zero] at rr2
  exact ⟨(a1, a2), (d1, d2), (m1, m2), (s1, s2), (t1, t2), (r1, r2), A, fun w => by have := isOut_cb ha w; rwa [hout] at this, D, M, S, T, R, ⟨rr1.fin, rr2.fin, rnd0 rr1, rnd0 rr2⟩⟩
set_option maxRecDepth 100000 in
set_option maxHeartbeats 4000000 in
theorem NearEscape_ok (f : Nat → Nat × Nat) (A : Option Addr) (n c : Nat) (fl : Bool) (w : World) (hn1 : 1 ≤ n) (hn : n ≤ 128) (hP : ∀ k, k < n → Cb ((110 : Nat) : Rat) (f k)) (hA : Rd w w.heap.size 1 A n ((List.range n).map (fun i => cxv (f i)))) :
    Calls Try.prog 14 #[.slice A n c, .complex .f32 0 0, .bool fl] w fun e w' => ∃ j : Nat, e = .returned (.tuple #[.int .i64 (j : Int), .bool true]) ∧ w' = w ∧ j ≤ n ∧ (∀ i, i < j → out (f i) = false) ∧ (j < n → out (f j) = true) := by
  have AF := Lib.hid (fun w => areFiniteF f A n c w (by omega) hP)
  have IF := Lib.hid (fun w => finiteC_num c0.1 c0.1 w)
  have HA := Lib.hid hA
  have HPP := Lib.hid hP
  clear hA hP
  go_enter Try.func14, Try.ntmps14
  go_wp2_with fail
  refine (AF.out _ HA.out).mono ?_
  rintro e w1 ⟨rfl, hw1⟩
  obtain rfl := hw1.symm
  go_wp2_with fail
  refine (IF.out _).mono ?_
  rintro e w1 ⟨rfl, hw1⟩
  obtain rfl := hw1.symm
  clear AF IF
  go_wp2
  go_loopw [8, 31] (fun se si wr => ∃ (i e1 e2 : Nat), si = .int .i64 (i : Int) ∧ i ≤ n ∧ se = .complex .f32 e1 e2 ∧ Hid (Zr (e1, e2)) ∧ Hid (∀ j, j < i → out (f j) = false) ∧ wr = w) (fun _ si _ => n - (intOf si).toNat)
  case atStart => exact ⟨0, 0, 0, rfl, Nat.zero_le _, rfl, Lib.hid zr0, Lib.hid fun j hj => absurd hj (Nat.not_lt_zero j), rfl⟩
  case round =>
    obtain ⟨i, e1, e2, rfl, hi, rfl, ZR, OU, hwr⟩ := hrel
    obtain rfl := hwr.symm
    by_cases hlt : i < n
    · have hii : (i : Int) < (n : Int) := by omega
      obtain ⟨b, off, rfl, hbb, hc⟩ := HA.out.2 (by omega)
      have cY := hc i _ (row_cx hlt)
      obtain ⟨⟨a1, a2⟩, ⟨d1, d2⟩, ⟨m1, m2⟩, ⟨s1, s2⟩, ⟨t1, t2⟩, ⟨r1, r2⟩, A1, O1, D1, M1, S1, T1, R1, Z1⟩ := near_step (HPP.out i hlt) ZR.out
      obtain ⟨oi, eo⟩ : ∃ o, out (f i) = o := ⟨_, rfl⟩
      rw [eo] at O1
      have EO := Lib.hid eo
      obtain ⟨y, ey⟩ : ∃ y, f i = y := ⟨_, rfl⟩
      rw [ey] at cY A1 D1
      obtain ⟨y1, y2⟩ := y
      simp only at cY A1 D1
      have A1 := Lib.hid A1
      have O1 := Lib.hid O1
      have D1 := Lib.hid D1
      have M1 := Lib.hid M1
      have S1 := Lib.hid S1
      have T1 := Lib.hid T1
      have R1 := Lib.hid R1
      have F1 := Lib.hid (fun w => flush_w Z1.f1 Z1.v1 w)
      have F2 := Lib.hid (fun w => flush_w Z1.f2 Z1.v2 w)
      have Z1 := Lib.hid Z1
      clear hc ey eo
      go_wp2_with fail
      refine (A1.out _).mono ?_
      rintro e w2 ⟨rfl, hw2⟩
      obtain rfl := hw2.symm
      go_wp2_with fail
      refine (O1.out _).mono ?_
      rintro e w2 ⟨rfl, hw2⟩
      obtain rfl := hw2.symm
      clear A1 O1
      cases oi with
      | true =>
        go_wp2
        go_ret2
        exact ⟨i, rfl, rfl, hi, OU.out, fun _ => EO.out⟩
      | false =>
        go_wp2_with fail
        refine (D1.out _).mono ?_
        rintro e w2 ⟨rfl, hw2⟩
        obtain rfl := hw2.symm
        go_wp2_with fail
        refine (M1.out _).mono ?_
        rintro e w2 ⟨rfl, hw2⟩
        obtain rfl := hw2.symm
        go_wp2_with fail
        refine (S1.out _).mono ?_
        rintro e w2 ⟨rfl, hw2⟩
        obtain rfl := hw2.symm
        go_wp2_with fail
        refine (T1.out _).mono ?_
        rintro e w2 ⟨rfl, hw2⟩
        obtain rfl := hw2.symm
        go_wp2_with fail
        refine (R1.out _).mono ?_
        rintro e w2 ⟨rfl, hw2⟩
        obtain rfl := hw2.symm
        clear D1 M1 S1 T1 R1
        have OU2 : Hid (∀ j, j < i + 1 → out (f j) = false) := Lib.hid fun j hj => by
          rcases Nat.lt_succ_iff_lt_or_eq.1 hj with hj | rfl
          · exact OU.out j hj
          · exact EO.out
        cases fl with
        | false =>
          go_wp2
          go_roundw
          case rel => exact ⟨i + 1, r1, r2, by go_num, by omega, rfl, Z1, OU2, by first | rfl | trivial⟩
          case measure => simp [intOf]; omega
        | true =>
          go_wp2_with fail
          refine (F1.out _).mono ?_
          rintro e w2 ⟨rfl, hw2⟩
          obtain rfl := hw2.symm
          go_wp2_with fail
          refine (F2.out _).mono ?_
          rintro e w2 ⟨rfl, hw2⟩
          obtain rfl := hw2.symm
          go_wp2
          go_roundw
          case rel => exact ⟨i + 1, r1, r2, by go_num, by omega, rfl, Z1, OU2, by first | rfl | trivial⟩
          case measure => simp [intOf]; omega
    · obtain rfl : i = n := by omega
      have hii : ¬ (i : Int) < (i : Int) := by omega
      go_wp2
      go_ret2
      exact ⟨i, rfl, rfl, Nat.le_refl _, OU.out, fun h => absurd h (by omega)⟩
end Go.Proofs.Ytjmidicidgaapaa

/- Walks: how long a line is, the area of a loop, the span of points. Conditions: the sums' floats are known; at most 64 points. -/
import Derived.Test.YtkldgcgijkfpaaaTue
namespace Go.Proofs.Ytkldgcgijkfpaaa
open Go.RowKit
open Num Quick
attribute [local go_sem] run_store_fl run_store_cx

/-- The floats that a line's length goes through. -/
structure LSum (f : Nat → Nat × Nat) (n : Nat) (pw sm : Nat → Nat) : Prop where
  one : sm 1 = 0
  piece : ∀ k, k + 1 < n → ∃ u v, floatBits .sub .f32 (f (k + 1)).1 (f k).1 = some u ∧ floatBits .sub .f32 (f (k + 1)).2 (f k).2 = some v ∧ ∀ w : World, Calls Try.prog 18 #[.complex .f32 u v] w fun e w' => e = .returned (.float .f32 (pw k)) ∧ w' = w
  sum : ∀ k, k + 1 < n → floatBits .add .f32 (sm (k + 1)) (pw k) = some (sm (k + 2))
set_option maxRecDepth 100000 in
set_option maxHeartbeats 2000000 in
theorem tlongOfLine_ok {f : Nat → Nat × Nat} {pw sm : Nat → Nat} (n : Nat) (A : Option Addr) (c : Nat) (w : World) (hn1 : 1 ≤ n) (hn2 : n ≤ 64) (hL : LSum f n pw sm) (hA : Rd w w.heap.size 1 A n ((List.range n).map (fun i => cxv (f i)))) :
    Calls Try.prog 35 #[.slice A n c] w fun e w' => e = .returned (.float .f32 (sm n)) ∧ Below w.heap.size w w' := by
  have LS := Lib.hid hL
  have HA := Lib.hid hA
  clear hA hL
  go_enter Try.func35, Try.ntmps35
  go_wp2
  go_loopw [3, 4] (fun ss si wr => ∃ i x : Nat, si = .int .i64 (i : Int) ∧ 1 ≤ i ∧ i ≤ n ∧ ss = .float .f32 x ∧ Hid (x = sm i) ∧ Hid (Below w.heap.size w wr)) (fun _ si _ => n - (intOf si).toNat)
  case atStart => exact ⟨1, 0, rfl, Nat.le_refl _, hn1, rfl, Lib.hid LS.out.one.symm, Lib.hid (Below.refl _ _)⟩
  case round =>
    obtain ⟨i, x, rfl, hi1, hin, rfl, HX, V⟩ := hrel
    by_cases hlt : i < n
    · have hii : (i : Int) < (n : Int) := by omega
      obtain ⟨k, hk⟩ : ∃ k, k + 1 = i := ⟨i - 1, by omega⟩
      have hk1 : (i : Int) - 1 = (k : Int) := by omega
      have wk : IntKind.i64.wrap (k : Int) = (k : Int) := IntWalk.i64_in _ (by omega)
      have hkn : (k : Int) < (n : Int) := by omega
      have hk0 : (0 : Int) ≤ (k : Int) := by omega
      have hi0 : (0 : Int) ≤ (i : Int) := by omega
      obtain ⟨u, v, u1, v1, lo⟩ := LS.out.piece k (by omega)
      have S1 := LS.out.sum k (by omega)
      rw [hk] at u1 v1 S1
      rw [← HX.out, show k + 2 = i + 1 by omega] at S1
      obtain ⟨s', es'⟩ : ∃ s, sm (i + 1) = s := ⟨_, rfl⟩
      obtain ⟨r, er⟩ : ∃ r, pw k = r := ⟨_, rfl⟩
      rw [es', er] at S1
      rw [er] at lo
      obtain ⟨b, off, rfl, hbb, hc⟩ := (HA.out.below V.out).2 (by omega)
      have cI := hc i _ (range_map_get (fun i => cxv (f i)) hlt)
      have cK := hc k _ (range_map_get (fun i => cxv (f i)) (show k < n by omega))
      obtain ⟨pi, epi⟩ : ∃ p, f i = p := ⟨_, rfl⟩
      obtain ⟨pk, epk⟩ : ∃ p, f k = p := ⟨_, rfl⟩
      rw [epi] at cI u1 v1
      rw [epk] at cK u1 v1
      obtain ⟨a1, a2⟩ := pk
      obtain ⟨b1, b2⟩ := pi
      unfold cxv at cI cK
      simp only at cI cK u1 v1
      have SU := Lib.hid (fun w => tsub_w u1 v1 w)
      have LO := Lib.hid lo
      have q1 := r32 S1
      have XN := Lib.hid es'
      clear hc u1 v1 lo S1 epi epk er es' hk HX
      go_wp2
      go_quiet (first
        | (go_at_call 51; with_reducible exact Calls.quiet_of_same (SU.out _))
        | (go_at_call 18; with_reducible exact Calls.quiet_of_same (LO.out _)))
      generalize hw : World.drewN wr _ = w6
      have V6 : Hid (Below w.heap.size w w6) := Lib.hid (V.out.trans (by rw [← hw]; exact ⟨rfl, rfl, rfl, Nat.le_refl _, fun _ _ => rfl⟩))
      clear hw cI cK V SU LO q1
      go_wp2
      go_roundw
      case rel => exact ⟨i + 1, s', by go_num, by omega, by omega, rfl, Lib.hid XN.out.symm, V6⟩
      case measure => simp [intOf]; omega
    · obtain rfl : n = i := by omega
      have hii : ¬ (n : Int) < (n : Int) := by omega
      have hx := HX.out
      subst hx
      clear HX
      go_wp2
      go_ret
      exact ⟨rfl, V.out⟩
theorem tLongOfLine_ok {B : Rat} {f : Nat → Nat × Nat} {pw sm : Nat → Nat} (n : Nat) (A : Option Addr) (c : Nat) (w : World) (hn1 : 1 ≤ n) (hn2 : n ≤ 64) (hf : ∀ i, i < n → Cb B (f i)) (hL : LSum f n pw sm) (FI : Fl .f32 (sm n)) (hA : Rd w w.heap.size 1 A n ((List.range n).map (fun i => cxv (f i)))) :
    Calls Try.prog 10 #[.slice A n c] w fun e w' => e = .returned (.tuple #[.float .f32 (sm n), .bool true]) ∧ Below w.heap.size w w' := by
  have AP := Lib.hid (arePoints_w f A n c w (by omega) hf hA)
  have LO := Lib.hid (tlongOfLine_ok n A c w hn1 hn2 hL hA)
  have IN := Lib.hid (fun w => ifNumber_num FI w)
  generalize sm n = l at *
  clear hf hA hL FI
  go_enter Try.func10, Try.ntmps10
  go_wp2_with fail
  refine AP.out.mono ?_
  rintro e w1 ⟨rfl, hw1⟩
  obtain rfl := hw1.symm
  go_wp2_with fail
  refine LO.out.mono ?_
  rintro e w2 ⟨rfl, hb⟩
  have V := Lib.hid hb
  clear hb
  go_wp2_with fail
  refine (IN.out _).mono ?_
  rintro e w3 ⟨rfl, hw3⟩
  obtain rfl := hw3.symm
  go_wp2
  go_ret2
  exact ⟨rfl, V.out⟩
theorem tside_w {a b c d p q r : Nat} (h1 : floatBits .mul .f32 a d = some p) (h2 : floatBits .mul .f32 b c = some q) (h3 : floatBits .sub .f32 p q = some r) (w : World) : Calls Try.prog 47 #[.complex .f32 a b, .complex .f32 c d] w fun e w' => e = .returned (.float .f32 r) ∧ w' = w := by
  have q1 := r32 h1
  have q2 := r32 h2
  have q3 := r32 h3
  clear h1 h2 h3
  go_enter Try.func47, Try.ntmps47
  go_wp2
  go_ret
  exact ⟨rfl, rfl⟩
/-- The point behind number i in a loop. -/
def nx (n i : Nat) : Nat := if i + 1 < n then i + 1 else 0
theorem nx_lt {n i : Nat} (h : i < n) : nx n i < n := by unfold nx; split <;> omega
theorem nx_mod {n i : Nat} (h : i < n) : ((i : Int) + 1) % (n : Int) = (nx n i : Int) := by
  unfold nx
  split
  · rw [Int.emod_eq_of_lt (by omega) (by omega)]; omega
  · rw [show (i : Int) + 1 = (n : Int) by omega]; simp
/-- The floats that a loop's area goes through. -/
structure ASum (f : Nat → Nat × Nat) (n : Nat) (sd sm : Nat → Nat) (r : Nat) : Prop where
  zero : sm 0 = 0
  side : ∀ k, k < n → ∃ p q, floatBits .mul .f32 (f k).1 (f (nx n k)).2 = some p ∧ floatBits .mul .f32 (f k).2 (f (nx n k)).1 = some q ∧ floatBits .sub .f32 p q = some (sd k)
  sum : ∀ k, k < n → floatBits .add .f32 (sm k) (sd k) = some (sm (k + 1))
  half : floatBits .mul .f32 1056964608 (sm n) = some r
  fin : Fl .f32 r
set_option maxRecDepth 100000 in
set_option maxHeartbeats 2000000 in
theorem LoopArea_ok {B : Rat} {f : Nat → Nat × Nat} {sd sm : Nat → Nat} {r : Nat} (n : Nat) (A : Option Addr) (c : Nat) (w : World) (hn1 : 1 ≤ n) (hn2 : n ≤ 64) (hf : ∀ i, i < n → Cb B (f i)) (hL : ASum f n sd sm r) (hA : Rd w w.heap.size 1 A n ((List.range n).map (fun i => cxv (f i)))) :
    Calls Try.prog 16 #[.slice A n c] w fun e w' => e = .returned (.tuple #[.float .f32 r, .bool true]) ∧ Below w.heap.size w w' := by
  have AP := Lib.hid (arePoints_w f A n c w (by omega) hf hA)
  have IN := Lib.hid (fun w => ifNumber_num hL.fin w)
  have LS := Lib.hid hL
  have HA := Lib.hid hA
  clear hf hA hL
  go_enter Try.func16, Try.ntmps16
  go_wp2_with fail
  refine AP.out.mono ?_
  rintro e w1 ⟨rfl, hw1⟩
  obtain rfl := hw1.symm
  go_wp2
  go_loopw [4, 12] (fun ss si wr => ∃ i : Nat, si = .int .i64 (i : Int) ∧ i ≤ n ∧ ss = .float .f32 (sm i) ∧ wr = w) (fun _ si _ => n - (intOf si).toNat)
  case atStart => exact ⟨0, rfl, Nat.zero_le _, by rw [LS.out.zero], rfl⟩
  case round =>
    obtain ⟨i, rfl, hin, rfl, hwr⟩ := hrel
    obtain rfl := hwr.symm
    by_cases hlt : i < n
    · have hii : (i : Int) < (n : Int) := by omega
      have hi0 : (0 : Int) ≤ (i : Int) := by omega
      have hmod := nx_mod hlt
      have hjn := nx_lt hlt
      obtain ⟨p, q, m1, m2, m3⟩ := LS.out.side i hlt
      have S1 := LS.out.sum i hlt
      obtain ⟨j, ej⟩ : ∃ j, nx n i = j := ⟨_, rfl⟩
      rw [ej] at hmod hjn m1 m2
      have hjI : (j : Int) < (n : Int) := by omega
      have hj0 : (0 : Int) ≤ (j : Int) := by omega
      have hnz : ((n : Int) == 0) = false := by simp; omega
      obtain ⟨b, off, rfl, hbb, hc⟩ := HA.out.2 (by omega)
      have cI := hc i _ (range_map_get (fun i => cxv (f i)) hlt)
      have cJ := hc j _ (range_map_get (fun i => cxv (f i)) hjn)
      obtain ⟨pi, epi⟩ : ∃ p, f i = p := ⟨_, rfl⟩
      obtain ⟨pj, epj⟩ : ∃ p, f j = p := ⟨_, rfl⟩
      rw [epi] at cI m1 m2
      rw [epj] at cJ m1 m2
      obtain ⟨a1, a2⟩ := pi
      obtain ⟨b1, b2⟩ := pj
      unfold cxv at cI cJ
      simp only at cI cJ m1 m2
      have SD := Lib.hid (fun w => tside_w m1 m2 m3 w)
      have q1 := r32 S1
      obtain ⟨s0, es0⟩ : ∃ s, sm i = s := ⟨_, rfl⟩
      obtain ⟨s1, es1⟩ : ∃ s, sm (i + 1) = s := ⟨_, rfl⟩
      rw [es0, es1] at q1
      rw [es0]
      have ES := Lib.hid es1
      clear hc m1 m2 m3 S1 epi epj ej es0 es1
      go_wp2_with fail
      refine (SD.out _).mono ?_
      rintro e w5 ⟨rfl, h5⟩
      obtain rfl := h5.symm
      go_wp2
      go_roundw
      case rel => exact ⟨i + 1, by go_num, by omega, by rw [ES.out], trivial⟩
      case measure => simp [intOf]; omega
    · obtain rfl : n = i := by omega
      have k1 := r32 LS.out.half
      generalize sm n = l at *
      clear LS
      go_wp2_with fail
      refine (IN.out _).mono ?_
      rintro e w5 ⟨rfl, h5⟩
      obtain rfl := h5.symm
      go_wp2
      go_ret2
      exact ⟨rfl, Below.refl _ _⟩
/-- The least and the greatest parts of the first points. -/
structure Spn (f : Nat → Nat × Nat) (k : Nat) (a b c d : Nat) : Prop where
  fa : Fl .f32 a
  fb : Fl .f32 b
  fc : Fl .f32 c
  fd : Fl .f32 d
  lo1 : ∀ i, i < k → Num.fv .f32 a ≤ Num.fv .f32 (f i).1
  lo2 : ∀ i, i < k → Num.fv .f32 b ≤ Num.fv .f32 (f i).2
  hi1 : ∀ i, i < k → Num.fv .f32 (f i).1 ≤ Num.fv .f32 c
  hi2 : ∀ i, i < k → Num.fv .f32 (f i).2 ≤ Num.fv .f32 d
def ltw (x y : Nat) : Bool := FloatKind.f32.format.order x y == some .lt
def gtw (x y : Nat) : Bool := FloatKind.f32.format.order x y == some .gt
theorem ltw_iff {x y : Nat} (hx : Fl .f32 x) (hy : Fl .f32 y) : ltw x y = true ↔ Num.fv .f32 x < Num.fv .f32 y := by
  unfold ltw
  obtain ⟨o, e, h1, h2, h3⟩ := order_fin FloatKind.f32.format hx hy
  rw [e]
  cases o
  · exact ⟨fun _ => h1.1 rfl, fun _ => by decide⟩
  · exact ⟨fun h => (by cases h), fun h => (by have := h1.2 h; cases this)⟩
  · exact ⟨fun h => (by cases h), fun h => (by have := h1.2 h; cases this)⟩
theorem gtw_iff {x y : Nat} (hx : Fl .f32 x) (hy : Fl .f32 y) : gtw x y = true ↔ Num.fv .f32 y < Num.fv .f32 x := by
  unfold gtw
  obtain ⟨o, e, h1, h2, h3⟩ := order_fin FloatKind.f32.format hx hy
  rw [e]
  cases o
  · exact ⟨fun h => (by cases h), fun h => (by have := h3.2 h; cases this)⟩
  · exact ⟨fun h => (by cases h), fun h => (by have := h3.2 h; cases this)⟩
  · exact ⟨fun _ => h3.1 rfl, fun _ => by decide⟩
theorem least_step {g : Nat → Nat} {k a x : Nat} (fa : Fl .f32 a) (fx : Fl .f32 x) (hx : g k = x) (h : ∀ i, i < k → Num.fv .f32 a ≤ Num.fv .f32 (g i)) : Fl .f32 (if ltw x a then x else a) ∧ ∀ i, i < k + 1 → Num.fv .f32 (if ltw x a then x else a) ≤ Num.fv .f32 (g i) := by
  have e := ltw_iff fx fa
  by_cases c : ltw x a = true
  · rw [if_pos c]
    have c' := e.1 c
    refine ⟨fx, fun i hi => ?_⟩
    rcases Nat.lt_succ_iff_lt_or_eq.1 hi with h1 | rfl
    · exact Rat.le_trans (Rat.le_of_lt c') (h i h1)
    · rw [hx]; exact Rat.le_refl
  · rw [if_neg c]
    have c' : Num.fv .f32 a ≤ Num.fv .f32 x := Rat.not_lt.1 (fun q => c (e.2 q))
    refine ⟨fa, fun i hi => ?_⟩
    rcases Nat.lt_succ_iff_lt_or_eq.1 hi with h1 | rfl
    · exact h i h1
    · rw [hx]; exact c'
theorem most_step {g : Nat → Nat} {k a x : Nat} (fa : Fl .f32 a) (fx : Fl .f32 x) (hx : g k = x) (h : ∀ i, i < k → Num.fv .f32 (g i) ≤ Num.fv .f32 a) : Fl .f32 (if gtw x a then x else a) ∧ ∀ i, i < k + 1 → Num.fv .f32 (g i) ≤ Num.fv .f32 (if gtw x a then x else a) := by
  have e := gtw_iff fx fa
  by_cases c : gtw x a = true
  · rw [if_pos c]
    have c' := e.1 c
    refine ⟨fx, fun i hi => ?_⟩
    rcases Nat.lt_succ_iff_lt_or_eq.1 hi with h1 | rfl
    · exact Rat.le_trans (h i h1) (Rat.le_of_lt c')
    · rw [hx]; exact Rat.le_refl
  · rw [if_neg c]
    have c' : Num.fv .f32 x ≤ Num.fv .f32 a := Rat.not_lt.1 (fun q => c (e.2 q))
    refine ⟨fa, fun i hi => ?_⟩
    rcases Nat.lt_succ_iff_lt_or_eq.1 hi with h1 | rfl
    · exact h i h1
    · rw [hx]; exact c'
set_option maxRecDepth 100000 in
set_option maxHeartbeats 2000000 in
theorem SpanOf_ok {B : Rat} {f : Nat → Nat × Nat} (n : Nat) (A : Option Addr) (c : Nat) (w : World) (hn1 : 1 ≤ n) (hn2 : n ≤ 64) (hf : ∀ i, i < n → Cb B (f i)) (hA : Rd w w.heap.size 1 A n ((List.range n).map (fun i => cxv (f i)))) :
    Calls Try.prog 17 #[.slice A n c] w fun e w' => ∃ a b c' d, e = .returned (.tuple #[.complex .f32 a b, .complex .f32 c' d, .bool true]) ∧ Spn f n a b c' d ∧ Below w.heap.size w w' := by
  have AP := Lib.hid (arePoints_w f A n c w (by omega) hf hA)
  have HA := Lib.hid hA
  have HF := Lib.hid hf
  have hnz : ((n : Int) == 0) = false := by simp; omega
  have hn0 : (0 : Int) < (n : Int) := by omega
  obtain ⟨b, off, rfl, hbb, hc⟩ := hA.2 (by omega)
  have c0 := hc 0 _ (range_map_get (fun i => cxv (f i)) (show 0 < n by omega))
  simp only [Nat.add_zero, cxv] at c0
  have HC : Hid (∀ w', Below w.heap.size w w' → ∀ i, i < n → w'.cell? ⟨b, off + i, none⟩ = some (.complex .f32 (f i).1 (f i).2)) := Lib.hid fun w' hb i hi => (hb.cell (p := ⟨b, off + i, none⟩) hbb).trans (hc i _ (range_map_get (fun i => cxv (f i)) hi))
  clear hf hA hc
  go_enter Try.func17, Try.ntmps17
  go_wp2_with fail
  refine AP.out.mono ?_
  rintro e w1 ⟨rfl, hw1⟩
  obtain rfl := hw1.symm
  go_wp2
  go_quiet (fail)
  generalize hw : World.drewN w _ = w2
  have V2 : Hid (Below w.heap.size w w2) := Lib.hid (by rw [← hw]; exact ⟨rfl, rfl, rfl, Nat.le_refl _, fun _ _ => rfl⟩)
  have F0 := HF.out 0 (by omega)
  have S0 : Hid (Spn f 0 (f 0).1 (f 0).2 (f 0).1 (f 0).2) := Lib.hid ⟨F0.1, F0.2.1, F0.1, F0.2.1, fun i h => by omega, fun i h => by omega, fun i h => by omega, fun i h => by omega⟩
  clear hw c0 F0
  go_wp2
  go_loopw [5, 6, 25] (fun sl sh si wr => ∃ i a b c' d : Nat, si = .int .i64 (i : Int) ∧ i ≤ n ∧ sl = .complex .f32 a b ∧ sh = .complex .f32 c' d ∧ Hid (Spn f i a b c' d) ∧ Hid (Below w.heap.size w wr)) (fun _ _ si _ => n - (intOf si).toNat)
  case atStart => exact ⟨0, _, _, _, _, rfl, Nat.zero_le _, rfl, rfl, S0, V2⟩
  case round =>
    obtain ⟨i, a1, a2, b1, b2, rfl, hin, rfl, rfl, SP, V⟩ := hrel
    clear S0 V2
    by_cases hlt : i < n
    · have hii : (i : Int) < (n : Int) := by omega
      have cI := HC.out wr V.out i hlt
      have FI := HF.out i hlt
      obtain ⟨p, ep⟩ : ∃ p, f i = p := ⟨_, rfl⟩
      rw [ep] at cI FI
      obtain ⟨x, y⟩ := p
      simp only at cI FI
      have L1 := least_step (g := fun i => (f i).1) (k := i) SP.out.fa FI.1 (by rw [ep]) SP.out.lo1
      have L2 := least_step (g := fun i => (f i).2) (k := i) SP.out.fb FI.2.1 (by rw [ep]) SP.out.lo2
      have M1 := most_step (g := fun i => (f i).1) (k := i) SP.out.fc FI.1 (by rw [ep]) SP.out.hi1
      have M2 := most_step (g := fun i => (f i).2) (k := i) SP.out.fd FI.2.1 (by rw [ep]) SP.out.hi2
      obtain ⟨p1, e1⟩ : ∃ p, ltw x a1 = p := ⟨_, rfl⟩
      obtain ⟨p2, e2⟩ : ∃ p, ltw y a2 = p := ⟨_, rfl⟩
      obtain ⟨p3, e3⟩ : ∃ p, gtw x b1 = p := ⟨_, rfl⟩
      obtain ⟨p4, e4⟩ : ∃ p, gtw y b2 = p := ⟨_, rfl⟩
      have SN : Hid (Spn f (i + 1) (if p1 then x else a1) (if p2 then y else a2) (if p3 then x else b1) (if p4 then y else b2)) := by
        rw [← e1, ← e2, ← e3, ← e4]
        exact Lib.hid ⟨L1.1, L2.1, M1.1, M2.1, L1.2, L2.2, M1.2, M2.2⟩
      unfold ltw at e1 e2
      unfold gtw at e3 e4
      clear L1 L2 M1 M2 FI SP ep
      cases p1 <;> cases p2 <;> cases p3 <;> cases p4 <;>
      · go_wp2
        go_roundw
        case rel => exact ⟨i + 1, _, _, _, _, by go_num, by omega, rfl, rfl, SN, V⟩
        case measure => simp [intOf]; omega
    · obtain rfl : n = i := by omega
      go_wp2
      go_ret3
      exact ⟨a1, a2, b1, b2, rfl, SP.out, V.out⟩
end Go.Proofs.Ytkldgcgijkfpaaa

/- Walk: a line broken once. Conditions: numbers of middling size, at most 33 points. -/
import Derived.Test.YtkldgcgijkfpaaaCob
namespace Go.Proofs.Ytkldgcgijkfpaaa
open Go.RowKit
open Num Quick
attribute [local go_sem] run_store_fl run_store_cx

/-- A line that is broken: its first so many points. -/
structure Brk (P : Nat → Nat × Nat) (rough B i : Nat) (L : List (Nat × Nat)) : Prop where
  len : L.length = 2 * i - 1
  even : ∀ j, j < i → L.getD (2 * j) (0, 0) = P j
  odd : ∀ j, j + 1 < i → ∃ d, Fl .f32 d ∧ InR (Num.fv .f32 d) 1 ∧ Nonempty (Mid (P j) (P (j + 1)) rough d (L.getD (2 * j + 1) (0, 0)))
  cb : ∀ z ∈ L, Cb ((2 * B : Nat) : Rat) z
theorem getD_left {L M : List (Nat × Nat)} {j : Nat} (h : j < L.length) : (L ++ M).getD j (0, 0) = L.getD j (0, 0) := by
  rw [List.getD_eq_getElem?_getD, List.getD_eq_getElem?_getD, List.getElem?_append_left h]
theorem getD_right {L M : List (Nat × Nat)} (j : Nat) : (L ++ M).getD (L.length + j) (0, 0) = M.getD j (0, 0) := by
  rw [List.getD_eq_getElem?_getD, List.getD_eq_getElem?_getD, List.getElem?_append_right (by omega)]
  congr 2
  omega
theorem Brk.zero (P : Nat → Nat × Nat) (rough B : Nat) : Brk P rough B 0 [] := ⟨rfl, fun j h => absurd h (Nat.not_lt_zero j), fun j h => absurd h (by omega), fun z h => absurd h (by simp)⟩
theorem Brk.one {P : Nat → Nat × Nat} {rough B : Nat} (h : Cb ((B : Nat) : Rat) (P 0)) : Brk P rough B 1 ([] ++ [P 0]) := by
  refine ⟨rfl, fun j hj => ?_, fun j hj => absurd hj (by omega), fun z hz => ?_⟩
  · obtain rfl : j = 0 := by omega
    rfl
  · have : z = P 0 := by simpa using hz
    rw [this]
    exact h.mono (Rat.natCast_le_natCast.2 (by omega))
theorem Brk.step {P : Nat → Nat × Nat} {rough B i d : Nat} {L : List (Nat × Nat)} {z : Nat × Nat} (h : Brk P rough B i L) (hi : 1 ≤ i) (hz : Cb ((2 * B : Nat) : Rat) z) (hp : Cb ((B : Nat) : Rat) (P i)) (hd : Fl .f32 d) (hd2 : InR (Num.fv .f32 d) 1) (hm : Nonempty (Mid (P (i - 1)) (P i) rough d z)) :
    Brk P rough B (i + 1) ((L ++ [z]) ++ [P i]) := by
  have hl := h.len
  refine ⟨by simp; omega, fun j hj => ?_, fun j hj => ?_, fun y hy => ?_⟩
  · rcases Nat.lt_succ_iff_lt_or_eq.1 hj with h1 | rfl
    · rw [getD_left (by simp; omega), getD_left (by omega)]
      exact h.even j h1
    · have e : 2 * j = (L ++ [z]).length + 0 := by simp; omega
      rw [e, getD_right]
      rfl
  · rcases (by omega : j + 1 < i ∨ j + 1 = i) with h1 | h1
    · obtain ⟨e, e1, e2, e3⟩ := h.odd j h1
      refine ⟨e, e1, e2, ?_⟩
      rw [getD_left (by simp; omega), getD_left (by omega)]
      exact e3
    · refine ⟨d, hd, hd2, ?_⟩
      rw [getD_left (by simp; omega)]
      have e : 2 * j + 1 = L.length + 0 := by omega
      rw [e, getD_right]
      rw [h1, show j = i - 1 by omega]
      exact hm
  · rcases List.mem_append.1 hy with hy | hy
    · rcases List.mem_append.1 hy with hy | hy
      · exact h.cb y hy
      · rw [List.mem_singleton.1 hy]; exact hz
    · rw [List.mem_singleton.1 hy]
      exact hp.mono (Rat.natCast_le_natCast.2 (by omega))
set_option maxRecDepth 100000 in
set_option maxHeartbeats 8000000 in
theorem broken_ok (P : Nat → Nat × Nat) (rough B s n c : Nat) (A : Option Addr) (w : World) (hn : n ≤ 64) (hB : B ≤ 1000) (hP : ∀ i, i < n → Cb ((B : Nat) : Rat) (P i)) (hr : Fl .f32 rough) (hr2 : InR (Num.fv .f32 rough) (1 / 2)) (hs : s ≤ 2147483647)
    (hA : Rd w w.heap.size 1 A n ((List.range n).map (fun i => cxv (P i)))) :
    Calls Try.prog 54 #[.slice A n c, .float .f32 rough, .int .i64 (s : Int)] w fun e w' => ∃ (L : List (Nat × Nat)) (g q c' : Nat), e = .returned (.tuple #[.slice (some ⟨g, 0, none⟩) q c', .int .i64 (sds s (n - 1) : Nat)]) ∧ q = 2 * n - 1 ∧ Brk P rough B n L ∧ w'.ownsRow w.heap.size 37 1 (.slice (some ⟨g, 0, none⟩) q c') q (L.map cxv) ∧ Below w.heap.size w w' := by
  have HA := Lib.hid hA
  have HP := Lib.hid hP
  have HR := Lib.hid (show _ ∧ _ from ⟨hr, hr2⟩)
  have SL := Lib.hid (fun k => sds_le hs k)
  obtain ⟨v, ev⟩ : ∃ v, v = w.alloc (.cells #[] 37) := ⟨_, rfl⟩
  have V1 : Hid (Below w.heap.size w v) := by rw [ev]; exact Lib.hid ((Below.refl _ _).alloc (Nat.le_refl _) _)
  have O1 : Hid (v.ownsRow w.heap.size 37 1 (.slice (some ⟨w.heap.size, 0, none⟩) 0 0) 0 (([] : List (Nat × Nat)).map cxv)) := by
    rw [ev]
    exact Lib.hid ((Blk.new w _ _).own (n := 0) (size := 1) (Nat.le_refl _) rfl (by unfold maxLen; omega))
  have EV := Lib.hid ev
  clear ev hA hP hr hr2
  go_enter Try.func54, Try.ntmps54
  go_wp2
  rw [← EV.out]
  clear EV
  go_loopw [2, 8, 21] (fun ss so si wr => ∃ (L : List (Nat × Nat)) (i g q c' x : Nat), si = .int .i64 (i : Int) ∧ i ≤ n ∧ so = .slice (some ⟨g, 0, none⟩) q c' ∧ ss = .int .i64 (x : Int) ∧ Hid (x = sds s (i - 1)) ∧ Hid (q = 2 * i - 1) ∧ Hid (Brk P rough B i L) ∧ Hid (wr.ownsRow w.heap.size 37 1 (.slice (some ⟨g, 0, none⟩) q c') q (L.map cxv)) ∧ Hid (Below w.heap.size w wr)) (fun _ _ si _ => n - (intOf si).toNat)
  case atStart => exact ⟨[], 0, w.heap.size, 0, 0, s, rfl, Nat.zero_le _, rfl, rfl, Lib.hid rfl, Lib.hid rfl, Lib.hid (Brk.zero _ _ _), O1, V1⟩
  case round =>
    clear O1 V1
    obtain ⟨L, i, g, q, c', x, rfl, hi, rfl, rfl, HX, HQ, BR, O, V⟩ := hrel
    by_cases hlt : i < n
    · have hii : (i : Int) < (n : Int) := by omega
      have HAr := HA.out.below V.out
      obtain ⟨b, off, rfl, hbb, hc⟩ := HAr.2 (by omega)
      have cI := hc i _ (range_map_get (fun i => cxv (P i)) hlt)
      have hq2 : q ≤ 128 := by have := HQ.out; omega
      have PI := HP.out i hlt
      have HPI := Lib.hid PI
      by_cases h0 : i = 0
      · have hg0 : ¬ (0 : Int) < (i : Int) := by omega
        have I0 := Lib.hid h0
        clear h0
        have e0 : P i = ((P i).1, (P i).2) := rfl
        have hq0 : Hid (q = 0) := Lib.hid (by have := HQ.out; have := I0.out; omega)
        have hL : Hid (L = []) := Lib.hid (List.eq_nil_of_length_eq_zero (by have := BR.out.len; have := I0.out; omega))
        unfold cxv at cI
        obtain ⟨p0, ep0⟩ : ∃ p, (P i).1 = p := ⟨_, rfl⟩
        obtain ⟨q0, eq0⟩ : ∃ p, (P i).2 = p := ⟨_, rfl⟩
        rw [ep0, eq0] at cI
        have EP : Hid (P 0 = (p0, q0)) := Lib.hid (by rw [← I0.out, e0, ep0, eq0])
        have HP0 : Hid (Cb ((B : Nat) : Rat) (P 0)) := by rw [← I0.out]; exact HPI
        clear hc e0 ep0 eq0 PI
        go_wp2_with (first
          | (at_builtin; refine wpList_append_one (P := Try.prog) (W := wr) rfl _ _ _ rfl w.heap.size 37 (.complex .f32 0 0) 8 Try.underlying27 cxInfo rfl (some ⟨g, 0, none⟩) q c' (L.map cxv) rfl O.out (.complex .f32 p0 q0) wr.heap.size rfl rfl rfl (by unfold maxLen; omega) (by omega) V.out.size ?_; intro A9 c9 w9 ho9 hg9 hd9)
          | fail)
        obtain ⟨g9, c9', e9, _, _⟩ := ho9.form (by omega)
        rw [e9] at ho9
        have hlo : ∀ k, (Value.slice (some ⟨g, 0, none⟩) q c').ownBlock = some k → w.heap.size ≤ k := fun k e => (O.out.lt k e).1
        have V9 := Lib.hid (V.out.grown hg9 V.out.size (fun k e => by have := hlo k e; omega))
        have O9 : Hid (w9.ownsRow w.heap.size 37 1 (.slice (some ⟨g9, 0, none⟩) (q + 1) c9') (q + 1) (([] ++ [P 0]).map cxv)) := by
          rw [hL.out] at ho9
          rw [EP.out]
          exact Lib.hid ho9
        have E9 := Lib.hid e9
        clear ho9 hg9 hlo hd9 e9 O V cI
        go_wp2
        go_roundw
        case rel => exact ⟨[] ++ [P 0], i + 1, g9, q + 1, c9', x, by go_num, by omega, E9.out, rfl, Lib.hid (by rw [HX.out, I0.out]), Lib.hid (by have := hq0.out; have := I0.out; omega), by rw [I0.out]; exact Lib.hid (Brk.one HP0.out), O9, V9⟩
        case measure => simp [intOf]; omega
      · have hi0 : (0 : Int) < (i : Int) := by omega
        obtain ⟨k, hk⟩ : ∃ k, k + 1 = i := ⟨i - 1, by omega⟩
        have hk1 : (i : Int) - 1 = (k : Int) := by omega
        have hkn : (k : Int) < (n : Int) := by omega
        have cK := hc k _ (range_map_get (fun i => cxv (P i)) (show k < n by omega))
        have hx := SL.out (i - 1)
        rw [← HX.out] at hx
        obtain ⟨d, D1, d1, d2⟩ := draw_ok x hx
        obtain ⟨⟨z1, z2⟩, ⟨M⟩, hz⟩ := mid_ex (rough := rough) (HP.out k (by omega)) PI hB HR.out.1 HR.out.2 d1 d2
        have STEP : Hid (Brk P rough B (i + 1) ((L ++ [(z1, z2)]) ++ [P i])) := Lib.hid (BR.out.step (by omega) hz PI d1 d2 ⟨by rw [show i - 1 = k by omega]; exact M⟩)
        obtain ⟨by_, w1, w2, s1, h1, t1, s2, h2, t2, eby, ew1, ew2, es1, eh1, et1, ex, es2, eh2, et2, ey⟩ := M
        obtain ⟨pi, epi⟩ : ∃ p, P i = p := ⟨_, rfl⟩
        obtain ⟨pk, epk⟩ : ∃ p, P k = p := ⟨_, rfl⟩
        have EPI := Lib.hid epi
        rw [epi] at cI ew1 ew2 es1 es2 STEP
        rw [epk] at cK ew1 ew2 es1 es2
        obtain ⟨a1, a2⟩ := pk
        obtain ⟨b1, b2⟩ := pi
        unfold cxv at cI cK
        simp only at cI cK ew1 ew2 es1 es2 ex ey
        have DR := Lib.hid D1
        have SU : Hid (∀ w : World, Calls Try.prog 51 #[.complex .f32 b1 b2, .complex .f32 a1 a2] w fun e w' => e = .returned (.complex .f32 w1 w2) ∧ w' = w) := Lib.hid fun w => by
          have q1 := r32 ew1
          have q2 := r32 ew2
          go_enter Try.func51, Try.ntmps51
          go_wp2
          go_ret
          exact ⟨rfl, rfl⟩
        have r1 := r32 eby
        have r2 := r32 es1
        have r3 := r32 eh1
        have r4 := r32 et1
        have r5 := r32 ex
        have r6 := r32 es2
        have r7 := r32 eh2
        have r8 := r32 et2
        have r9 := r32 ey
        have XN : Hid (nsd x = sds s i) := Lib.hid (by rw [HX.out, show i = (i - 1) + 1 by omega]; rfl)
        obtain ⟨x', ex'⟩ : ∃ y, nsd x = y := ⟨_, rfl⟩
        rw [ex'] at DR XN
        clear hc eby ew1 ew2 es1 eh1 et1 ex es2 eh2 et2 ey D1 d1 d2 hz epi epk hk ex' hx PI HPI BR HX
        go_wp2_with fail
        refine (DR.out _).mono ?_
        rintro e w5 ⟨rfl, hw5⟩
        obtain rfl := hw5.symm
        clear DR
        go_wp2_with fail
        refine (SU.out _).mono ?_
        rintro e w5 ⟨rfl, hw5⟩
        obtain rfl := hw5.symm
        clear SU
        go_wp2_with (first
          | (at_builtin; refine wpList_append_one (P := Try.prog) (W := wr) rfl _ _ _ rfl w.heap.size 37 (.complex .f32 0 0) 8 Try.underlying27 cxInfo rfl (some ⟨g, 0, none⟩) q c' (L.map cxv) rfl O.out (.complex .f32 z1 z2) wr.heap.size rfl rfl rfl (by unfold maxLen; omega) (by omega) V.out.size ?_; intro A9 c9 w9 ho9 hg9 hd9
             obtain ⟨g9, c9', e9, _, _⟩ := ho9.form (by omega)
             rw [e9] at ho9 ⊢
             have hlo : ∀ k, (Value.slice (some ⟨g, 0, none⟩) q c').ownBlock = some k → w.heap.size ≤ k := fun k e => (O.out.lt k e).1
             have V9 := Lib.hid (V.out.grown hg9 V.out.size (fun k e => by have := hlo k e; omega))
             have O9 : Hid (w9.ownsRow w.heap.size 37 1 (.slice (some ⟨g9, 0, none⟩) (q + 1) c9') (q + 1) ((L ++ [(z1, z2)]).map cxv)) := by
               rw [List.map_append, List.map_cons, List.map_nil]
               exact Lib.hid ho9
             clear ho9 hg9 hlo hd9 e9 O V cI cK r1 r2 r3 r4 r5 r6 r7 r8 r9
             obtain ⟨q1, eq1⟩ : ∃ y, q + 1 = y := ⟨_, rfl⟩
             rw [eq1] at O9 ⊢
             have EQ1 := Lib.hid eq1
             have hq3 : q1 ≤ 129 := by omega
             clear eq1)
          | (at_builtin; refine wpList_append_one (P := Try.prog) (W := w9) rfl _ _ _ rfl w.heap.size 37 (.complex .f32 0 0) 8 Try.underlying27 cxInfo rfl (some ⟨g9, 0, none⟩) q1 c9' ((L ++ [(z1, z2)]).map cxv) rfl O9.out (.complex .f32 b1 b2) w9.heap.size rfl rfl rfl (by unfold maxLen; omega) (by omega) V9.out.size ?_; intro A8 c8 w8 ho8 hg8 hd8)
          | fail)
        obtain ⟨g8, c8', e8, _, _⟩ := ho8.form (by omega)
        rw [e8] at ho8
        have hlo : ∀ k, (Value.slice (some ⟨g9, 0, none⟩) q1 c9').ownBlock = some k → w.heap.size ≤ k := fun k e => (O9.out.lt k e).1
        have V8 := Lib.hid (V9.out.grown hg8 V9.out.size (fun k e => by have := hlo k e; omega))
        have O8 : Hid (w8.ownsRow w.heap.size 37 1 (.slice (some ⟨g8, 0, none⟩) (q1 + 1) c8') (q1 + 1) (((L ++ [(z1, z2)]) ++ [(b1, b2)]).map cxv)) := by
          rw [List.map_append (l₂ := [(b1, b2)]), List.map_cons (l := []), List.map_nil]
          exact Lib.hid ho8
        have E8 := Lib.hid e8
        clear ho8 hg8 hlo hd8 e8 O9 V9
        go_wp2
        go_roundw
        case rel => exact ⟨(L ++ [(z1, z2)]) ++ [(b1, b2)], i + 1, g8, q1 + 1, c8', x', by go_num, by omega, E8.out, rfl, Lib.hid XN.out, Lib.hid (by have := EQ1.out; have := HQ.out; omega), STEP, O8, V8⟩
        case measure => simp [intOf]; omega
    · obtain rfl : n = i := by omega
      have hii : ¬ (n : Int) < (n : Int) := by omega
      have hx := HX.out
      subst hx
      clear HX
      go_wp2
      go_ret2
      exact ⟨L, g, q, c', rfl, HQ.out, BR.out, O.out, V.out⟩
end Go.Proofs.Ytkldgcgijkfpaaa

/- Walks: coasts. Conditions: points of middling size, seeds of 31 bits. -/
import Derived.Test.YtkldgcgijkfpaaaCoc
namespace Go.Proofs.Ytkldgcgijkfpaaa
open Go.RowKit
open Num Quick
attribute [local go_sem] run_store_fl run_store_cx

theorem row_cx {f : Nat → Nat × Nat} {n k : Nat} (h : k < n) : ((List.range n).map (fun i => cxv (f i)))[k]? = some (.complex .f32 (f k).1 (f k).2) := range_map_get (fun i => cxv (f i)) h
theorem finiteF {B : Rat} {z : Nat × Nat} (h : Cb B z) (w : World) : Calls Try.prog 80 #[.complex .f32 z.1 z.2] w fun e w' => e = .returned (.bool false) ∧ w' = w := by
  have F := Lib.hid (fun w => finiteC_num h.1 h.2.1 w)
  clear h
  go_enter Try.func80, Try.ntmps80
  go_wp2_with fail
  refine (F.out _).mono ?_
  rintro e w1 ⟨rfl, hw1⟩
  obtain rfl := hw1.symm
  go_wp2
  try go_ret
  exact ⟨rfl, rfl⟩
theorem indexF {B : Rat} (f : Nat → Nat × Nat) (A : Option Addr) (n c : Nat) (w : World) (hn2 : n ≤ 256) (hP : ∀ k, k < n → Cb B (f k)) (hA : Rd w w.heap.size 1 A n ((List.range n).map (fun i => cxv (f i)))) :
    Calls Try.prog 90 #[.slice A n c, .func (.func 80) #[] #[]] w fun e w' => e = .returned (.int .i64 (-1)) ∧ w' = w := by
  have HA := Lib.hid hA
  have HPP := Lib.hid hP
  clear hA hP
  go_enter Try.func90, Try.ntmps90
  go_wp2
  go_loop [8] (fun si => ∃ k : Nat, k ≤ n ∧ si = .int .i64 k) (fun i => n - (intOf i).toNat)
  case atStart => exact ⟨0, Nat.zero_le _, rfl⟩
  case round =>
    obtain ⟨k, hk, rfl⟩ := hrel
    by_cases hlt : k < n
    · obtain ⟨b, off, rfl, hbb, hc⟩ := HA.out.2 (by omega)
      have cY := hc k _ (row_cx hlt)
      have PY := Lib.hid (finiteF (HPP.out _ hlt))
      clear hc
      generalize f k = y at *
      obtain ⟨y1, y2⟩ := y
      simp only at cY PY
      have hkI : (k : Int) < (n : Int) := Int.ofNat_lt.mpr hlt
      go_wp2_with (go_at_call 80; refine (PY.out _).mono ?_; rintro e w5 ⟨rfl, hw5⟩; obtain rfl := hw5.symm)
      go_round
      case rel => exact ⟨k + 1, by omega, by go_num⟩
      case measure => simp [intOf]; omega
    · obtain rfl : k = n := by omega
      go_wp2
      go_ret
      simp
theorem areFiniteF {B : Rat} (f : Nat → Nat × Nat) (A : Option Addr) (n c : Nat) (w : World) (hn2 : n ≤ 256) (hP : ∀ k, k < n → Cb B (f k)) (hA : Rd w w.heap.size 1 A n ((List.range n).map (fun i => cxv (f i)))) :
    Calls Try.prog 60 #[.slice A n c] w fun e w' => e = .returned (.bool true) ∧ w' = w := by
  have IC := Lib.hid (indexF f A n c w hn2 hP hA)
  have CC : Hid (Calls Try.prog 79 #[.slice A n c, .func (.func 80) #[] #[]] w fun e w' => e = .returned (.bool false) ∧ w' = w) := by
    refine Lib.hid ?_
    clear hP hA
    go_enter Try.func79, Try.ntmps79
    go_wp2_with fail
    refine IC.out.mono ?_
    rintro e w1 ⟨rfl, rfl⟩
    go_wp2
    go_ret
    simp
  clear hP hA IC
  go_enter Try.func60, Try.ntmps60
  go_wp2_with fail
  refine CC.out.mono ?_
  rintro e w1 ⟨rfl, rfl⟩
  go_wp2
  go_ret
  exact ⟨rfl, rfl⟩
theorem arePoints_w {B : Rat} (f : Nat → Nat × Nat) (A : Option Addr) (n c : Nat) (w : World) (hn2 : n ≤ 256) (hP : ∀ k, k < n → Cb B (f k)) (hA : Rd w w.heap.size 1 A n ((List.range n).map (fun i => cxv (f i)))) :
    Calls Try.prog 33 #[.slice A n c] w fun e w' => e = .returned (.bool true) ∧ w' = w := by
  have AF := Lib.hid (areFiniteF f A n c w hn2 hP hA)
  have hl : (n : Int) ≤ 256 := by omega
  clear hP hA
  go_enter Try.func33, Try.ntmps33
  go_wp2_with fail
  refine AF.out.mono ?_
  rintro e w1 ⟨rfl, rfl⟩
  go_wp2
  go_ret
  exact ⟨rfl, rfl⟩
/-- A line that is broken, as numbers. -/
structure Bro (P Q : Nat → Nat × Nat) (rough B n : Nat) : Prop where
  even : ∀ j, j < n → Q (2 * j) = P j
  odd : ∀ j, j + 1 < n → ∃ d, Fl .f32 d ∧ InR (Num.fv .f32 d) 1 ∧ Nonempty (Mid (P j) (P (j + 1)) rough d (Q (2 * j + 1)))
  cb : ∀ j, j < 2 * n - 1 → Cb ((2 * B : Nat) : Rat) (Q j)
theorem Brk.bro {P : Nat → Nat × Nat} {rough B n : Nat} {L : List (Nat × Nat)} (h : Brk P rough B n L) : Bro P (fun i => L.getD i (0, 0)) rough B n := by
  refine ⟨h.even, h.odd, fun j hj => ?_⟩
  have hl := h.len
  show Cb _ (L.getD j (0, 0))
  rw [List.getD_eq_getElem?_getD, List.getElem?_eq_getElem (by omega)]
  exact h.cb _ (List.getElem_mem _)
theorem broken_f (P : Nat → Nat × Nat) (rough B s n c : Nat) (A : Option Addr) (w : World) (hn : n ≤ 64) (hB : B ≤ 1000) (hP : ∀ i, i < n → Cb ((B : Nat) : Rat) (P i)) (hr : Fl .f32 rough) (hr2 : InR (Num.fv .f32 rough) (1 / 2)) (hs : s ≤ 2147483647)
    (hA : Rd w w.heap.size 1 A n ((List.range n).map (fun i => cxv (P i)))) :
    Calls Try.prog 54 #[.slice A n c, .float .f32 rough, .int .i64 (s : Int)] w fun e w' => ∃ (Q : Nat → Nat × Nat) (g q c' : Nat), e = .returned (.tuple #[.slice (some ⟨g, 0, none⟩) q c', .int .i64 (sds s (n - 1) : Nat)]) ∧ q = 2 * n - 1 ∧ Bro P Q rough B n ∧ w'.ownsRow w.heap.size 37 1 (.slice (some ⟨g, 0, none⟩) q c') q ((List.range q).map (fun i => cxv (Q i))) ∧ Below w.heap.size w w' := by
  refine (broken_ok P rough B s n c A w hn hB hP hr hr2 hs hA).mono ?_
  rintro e w' ⟨L, g, q, c', rfl, hq, hb, ho, hbl⟩
  rw [cx_list, hb.len, ← hq] at ho
  exact ⟨fun i => L.getD i (0, 0), g, q, c', rfl, hq, hb.bro, ho, hbl⟩
set_option maxRecDepth 100000 in
theorem BreakCoast_ok (P : Nat → Nat × Nat) (rough B s n c : Nat) (A : Option Addr) (w : World) (hn1 : 1 ≤ n) (hn : n ≤ 64) (hB : B ≤ 1000) (hP : ∀ i, i < n → Cb ((B : Nat) : Rat) (P i)) (hr : Fl .f32 rough) (hr2 : InR (Num.fv .f32 rough) (1 / 2)) (hs : s ≤ 2147483647)
    (hA : Rd w w.heap.size 1 A n ((List.range n).map (fun i => cxv (P i)))) :
    Calls Try.prog 21 #[.slice A n c, .float .f32 rough, .int .i64 (s : Int)] w fun e w' => ∃ (Q : Nat → Nat × Nat) (g q c' : Nat), e = .returned (.tuple #[.slice (some ⟨g, 0, none⟩) q c', .int .i64 (sds s (n - 1) : Nat), .bool true]) ∧ q = 2 * n - 1 ∧ Bro P Q rough B n ∧ w'.ownsRow w.heap.size 37 1 (.slice (some ⟨g, 0, none⟩) q c') q ((List.range q).map (fun i => cxv (Q i))) ∧ Below w.heap.size w w' := by
  have AP := Lib.hid (arePoints_w P A n c w (by omega) hP hA)
  have IF := Lib.hid (fun w => isFinite_num hr w)
  have IS := Lib.hid (fun w => isSeed_w s w hs)
  have BR := Lib.hid (broken_f P rough B s n c A w hn hB hP hr hr2 hs hA)
  clear hP hr hr2 hs hA
  go_enter Try.func21, Try.ntmps21
  go_wp2_with fail
  refine AP.out.mono ?_
  rintro e w1 ⟨rfl, hw1⟩
  obtain rfl := hw1.symm
  go_wp2_with fail
  refine (IF.out _).mono ?_
  rintro e w1 ⟨rfl, hw1⟩
  obtain rfl := hw1.symm
  go_wp2_with fail
  refine (IS.out _).mono ?_
  rintro e w1 ⟨rfl, hw1⟩
  obtain rfl := hw1.symm
  clear AP IF IS
  go_wp2_with fail
  refine BR.out.mono ?_
  rintro e w2 ⟨Q, g, q, c', rfl, hq, hb, ho, hbl⟩
  have A2 := Lib.hid (arePoints_w Q _ q c' w2 (by omega) (fun k hk => hb.cb k (by omega)) (Rd.own ho))
  have HB := Lib.hid hb
  have HO := Lib.hid ho
  have HQ := Lib.hid hq
  have HL := Lib.hid hbl
  clear hq hb ho hbl BR
  go_wp2_with fail
  refine A2.out.mono ?_
  rintro e w3 ⟨rfl, hw3⟩
  obtain rfl := hw3.symm
  go_wp2
  go_ret3
  exact ⟨Q, g, q, c', rfl, HQ.out, HB.out, HO.out, HL.out⟩
/-- The size of a coast that is broken so often. -/
def csz : Nat → Nat
  | 0 => 2
  | k + 1 => 2 * csz k - 1
theorem csz_le {k : Nat} (h : k ≤ 4) : 2 ≤ csz k ∧ csz k ≤ 17 := by
  rcases (by omega : k = 0 ∨ k = 1 ∨ k = 2 ∨ k = 3 ∨ k = 4) with rfl | rfl | rfl | rfl | rfl <;> decide
def cbs : Nat → Nat
  | 0 => 2
  | k + 1 => 2 * cbs k
theorem cbs_le {k : Nat} (h : k ≤ 4) : cbs k ≤ 32 := by
  rcases (by omega : k = 0 ∨ k = 1 ∨ k = 2 ∨ k = 3 ∨ k = 4) with rfl | rfl | rfl | rfl | rfl <;> decide
set_option maxRecDepth 100000 in
set_option maxHeartbeats 2000000 in
theorem CoastBetween_ok (a b : Nat × Nat) (rough s m : Nat) (w : World) (hm : m ≤ 4) (ha : Cb ((2 : Nat) : Rat) a) (hb : Cb ((2 : Nat) : Rat) b) (hr : Fl .f32 rough) (hr2 : InR (Num.fv .f32 rough) (1 / 2)) (hs : s ≤ 2147483647) :
    Calls Try.prog 22 #[.complex .f32 a.1 a.2, .complex .f32 b.1 b.2, .int .i64 (m : Int), .float .f32 rough, .int .i64 (s : Int)] w fun e w' => ∃ (Q : Nat → Nat × Nat) (g q c' s' : Nat), e = .returned (.tuple #[.slice (some ⟨g, 0, none⟩) q c', .int .i64 (s' : Int), .bool true]) ∧ q = csz m ∧ Q 0 = a ∧ Q (q - 1) = b ∧ (m = 1 → s' = nsd s) ∧ (∀ j, j < q → Cb ((cbs m : Nat) : Rat) (Q j)) ∧ w'.ownsRow w.heap.size 37 1 (.slice (some ⟨g, 0, none⟩) q c') q ((List.range q).map (fun i => cxv (Q i))) ∧ Below w.heap.size w w' := by
  have F1 := Lib.hid (fun w => finiteC_num ha.1 ha.2.1 w)
  have F2 := Lib.hid (fun w => finiteC_num hb.1 hb.2.1 w)
  have WI := Lib.hid (fun w => within_w (m : Int) 0 7 w (by omega) (by omega))
  have IF := Lib.hid (fun w => isFinite_num hr w)
  have IS := Lib.hid (fun w => isSeed_w s w hs)
  have HR := Lib.hid (show _ ∧ _ from ⟨hr, hr2⟩)
  have HS := Lib.hid hs
  have HAB := Lib.hid (show _ ∧ _ from ⟨ha, hb⟩)
  obtain ⟨a1, a2⟩ := a
  obtain ⟨b1, b2⟩ := b
  obtain ⟨v, ev⟩ : ∃ v, v = w.alloc (.cells #[.complex .f32 a1 a2, .complex .f32 b1 b2] 37) := ⟨_, rfl⟩
  have V1 : Hid (Below w.heap.size w v) := by rw [ev]; exact Lib.hid ((Below.refl _ _).alloc (Nat.le_refl _) _)
  have O1 : Hid (v.ownsRow w.heap.size 37 1 (.slice (some ⟨w.heap.size, 0, none⟩) 2 2) 2 ((List.range 2).map (fun i => cxv (if i = 0 then (a1, a2) else (b1, b2))))) := by
    rw [ev]
    exact Lib.hid ((Blk.new w _ _).own (n := 2) (size := 1) (Nat.le_refl _) rfl (by unfold maxLen; omega))
  have EV := Lib.hid ev
  clear ev ha hb hr hr2 hs
  go_enter Try.func22, Try.ntmps22
  go_wp2_with fail
  refine (F1.out _).mono ?_
  rintro e w1 ⟨rfl, hw1⟩
  obtain rfl := hw1.symm
  go_wp2_with fail
  refine (F2.out _).mono ?_
  rintro e w1 ⟨rfl, hw1⟩
  obtain rfl := hw1.symm
  go_wp2_with fail
  refine (WI.out _).mono ?_
  rintro e w1 ⟨rfl, hw1⟩
  obtain rfl := hw1.symm
  go_wp2_with fail
  refine (IF.out _).mono ?_
  rintro e w1 ⟨rfl, hw1⟩
  obtain rfl := hw1.symm
  go_wp2_with fail
  refine (IS.out _).mono ?_
  rintro e w1 ⟨rfl, hw1⟩
  obtain rfl := hw1.symm
  clear F1 F2 WI IF IS
  go_wp2
  rw [← EV.out]
  clear EV
  go_loopw [4, 13, 41] (fun ss so si wr => ∃ (Q : Nat → Nat × Nat) (k g q c' x : Nat), si = .int .i64 (k : Int) ∧ k ≤ m ∧ so = .slice (some ⟨g, 0, none⟩) q c' ∧ ss = .int .i64 (x : Int) ∧ x ≤ 2147483647 ∧ Hid ((k = 0 → x = s) ∧ (k = 1 → x = nsd s)) ∧ Hid (q = csz k) ∧ Hid (Q 0 = (a1, a2)) ∧ Hid (Q (q - 1) = (b1, b2)) ∧ Hid (∀ j, j < q → Cb ((cbs k : Nat) : Rat) (Q j)) ∧ Hid (wr.ownsRow w.heap.size 37 1 (.slice (some ⟨g, 0, none⟩) q c') q ((List.range q).map (fun i => cxv (Q i)))) ∧ Hid (Below w.heap.size w wr)) (fun _ _ si _ => m - (intOf si).toNat)
  case atStart =>
    refine ⟨fun i => if i = 0 then (a1, a2) else (b1, b2), 0, w.heap.size, 2, 2, s, rfl, Nat.zero_le _, rfl, rfl, HS.out, Lib.hid ⟨fun _ => rfl, fun h => absurd h (by omega)⟩, Lib.hid rfl, Lib.hid rfl, Lib.hid rfl, Lib.hid fun j hj => ?_, O1, V1⟩
    show Cb ((2 : Nat) : Rat) (if j = 0 then (a1, a2) else (b1, b2))
    split
    · exact HAB.out.1
    · exact HAB.out.2
  case round =>
    clear O1 V1 HAB
    obtain ⟨Q, k, g, q, c', x, rfl, hk, rfl, rfl, hx, HX, HQ, Q0, Q1, QC, O, V⟩ := hrel
    by_cases hlt : k < m
    · have hii : (k : Int) < (m : Int) := by omega
      have hq2 := csz_le (show k ≤ 4 by omega)
      have hc2 := cbs_le (show k ≤ 4 by omega)
      rw [← HQ.out] at hq2
      have BR := Lib.hid (broken_f Q rough (cbs k) x q c' (some ⟨g, 0, none⟩) wr (by omega) (by omega) QC.out HR.out.1 HR.out.2 hx (Rd.own O.out))
      clear hc2
      go_wp2_with fail
      refine BR.out.mono ?_
      rintro e w2 ⟨Q', g2, q2, c2, rfl, hq, hb, ho, hbl⟩
      have A2 := Lib.hid (arePoints_w Q' _ q2 c2 w2 (by omega) (fun k hk => hb.cb k (by omega)) (Rd.own ho))
      have V2 := Lib.hid (V.out.trans (hbl.mono V.out.size))
      have O2 := Lib.hid (own_base ho V.out.size)
      have E0 : Hid (Q' 0 = (a1, a2)) := Lib.hid ((hb.even 0 (by omega)).trans Q0.out)
      have E1 : Hid (Q' (q2 - 1) = (b1, b2)) := Lib.hid (by
        have := hb.even (q - 1) (by omega)
        rw [show q2 - 1 = 2 * (q - 1) by omega, this]
        exact Q1.out)
      have QC2 : Hid (∀ j, j < q2 → Cb ((cbs (k + 1) : Nat) : Rat) (Q' j)) := Lib.hid fun j hj => hb.cb j (by omega)
      have HQ2 : Hid (q2 = csz (k + 1)) := Lib.hid (by rw [hq, HQ.out]; rfl)
      have hsx := sds_le hx (q - 1)
      have HX2 : Hid ((k + 1 = 0 → sds x (q - 1) = s) ∧ (k + 1 = 1 → sds x (q - 1) = nsd s)) := Lib.hid ⟨fun h => absurd h (by omega), fun h => by
        have h0 : k = 0 := by omega
        have hq0 : q = 2 := by rw [HQ.out, h0]; rfl
        rw [hq0, HX.out.1 h0]
        rfl⟩
      obtain ⟨x', ex'⟩ : ∃ y, sds x (q - 1) = y := ⟨_, rfl⟩
      rw [ex'] at hsx HX2 ⊢
      clear hq hb ho hbl BR O V Q0 Q1 QC HX HQ ex' hx hq2
      go_wp2_with fail
      refine A2.out.mono ?_
      rintro e w3 ⟨rfl, hw3⟩
      obtain rfl := hw3.symm
      clear A2
      go_wp2
      go_roundw
      case rel => exact ⟨Q', k + 1, g2, q2, c2, x', by go_num, by omega, rfl, rfl, hsx, HX2, HQ2, E0, E1, QC2, O2, V2⟩
      case measure => simp [intOf]; omega
    · obtain rfl : m = k := by omega
      have hii : ¬ (m : Int) < (m : Int) := by omega
      go_wp2
      go_ret3
      exact ⟨Q, g, q, c', x, rfl, HQ.out, Q0.out, Q1.out, HX.out.2, QC.out, O.out, V.out⟩
end Go.Proofs.Ytkldgcgijkfpaaa

/- Walk: many drops, where the arguments are not valid; the pair. Conditions: as each says. -/
import Derived.Test.YtoibgpmpngccjaaHt
namespace Go.Proofs.Ytoibgpmpngccjaa
open Go.RowKit

def okDrops (W H : Int) (xs : List Nat) (k st s : Int) (tk lv : Nat) : Bool := okSheet W H xs && inB k 0 128 && inB st 0 128 && (okTake tk && okShare lv) && inB s 0 2147483647
set_option maxRecDepth 100000 in
set_option maxHeartbeats 4000000 in
theorem specDropsOn_no (W H k0 st s0 : Int) (tk lv : Nat) (A : Option Addr) (n c : Nat) (xs : List Nat) (w : World) (hn : n ≤ maxLen) (hA : Rd w w.heap.size 1 A n (xs.map fv)) (hno : okDrops W H xs k0 st s0 tk lv = false) :
    Calls Try.prog 12 #[sheetV W H A n c, .int .i64 k0, .int .i64 st, .float .f32 tk, .float .f32 lv, .int .i64 s0] w (SrRes 0 0 [] 0 false w) := by
  obtain ⟨v, ev⟩ : ∃ v, v = (w.alloc (.cells #[.int .i64 W, .int .i64 H, .slice A n c] 26)).alloc (.cells #[.int .i64 0, .int .i64 0, .slice none 0 0] 26) := ⟨_, rfl⟩
  have K0 : Blk v w.heap.size 26 #[.int .i64 W, .int .i64 H, .slice A n c] := by rw [ev]; exact (Blk.new w _ _).alloc _
  have R0 : Hid (Blk v (w.heap.size + 1) 26 #[.int .i64 0, .int .i64 0, .slice none 0 0]) := by rw [ev]; exact Blk.new2 _ _ _ _
  have V0 : Hid (Below w.heap.size w v) := by rw [ev]; exact ((Below.refl _ _).alloc (Nat.le_refl _) _).alloc (by simp) _
  have A0 : Rd v v.heap.size 1 A n (xs.map fv) := (hA.below V0.out).more V0.out.size
  have EV := Lib.hid ev
  have IS0 := Lib.hid (l05Is_any W H A n c w.heap.size v.heap.size xs v hn K0 A0)
  have L1 := Lib.hid (fun w => l00In_any k0 0 128 w)
  have L2 := Lib.hid (fun w => l00In_any st 0 128 w)
  have L3 := Lib.hid (fun w => l05Rule_any tk lv w)
  have L4 := Lib.hid (fun w => l05Seed_any s0 w)
  unfold okDrops at hno
  unfold sheetV
  clear ev K0 A0 hA hn
  generalize okSheet W H xs = q0 at *
  generalize inB k0 0 128 = q1 at *
  generalize inB st 0 128 = q2 at *
  generalize (okTake tk && okShare lv) = q3 at *
  generalize inB s0 0 2147483647 = q4 at *
  cases q0
  · clear hno
    go_enter Try.func12, Try.ntmps12
    go_wp2_with fail
    rw [← EV.out]
    refine IS0.out.mono ?_
    rintro e w1 ⟨rfl, m1, hw1⟩
    have R1 : Hid (Blk w1 (w.heap.size + 1) 26 #[.int .i64 0, .int .i64 0, .slice none 0 0]) := by rw [hw1]; exact R0.out.drewN _
    have V1 : Hid (Below w.heap.size w w1) := by rw [hw1]; exact below_drewN' V0.out _
    clear hw1
    go_wp2_with (first
      | (refine wpList_store_blk rfl _ _ _ rfl (w.heap.size + 1) 0 rfl _ rfl [.int .i64 0, .int .i64 0, .slice none 0 0] rfl 26 _ #[.int .i64 0, .int .i64 0, .slice none 0 0] R1.out (by kernel_rfl) (by simp) (by simp [Value.oneCell']) rfl ?_; intro w9 k9 g9)
      | fail)
    refine bodyPost_ret (results_row3 rfl _ w9 (w.heap.size + 1) 26 _ _ rfl k9 Try.underlying26 rfl (by kernel_rfl) _ _ rfl rfl) rfl ?_
    exact srRes_no (V1.out.grown g9 V1.out.size (fun j e => by injection e with e; omega))
  cases q1
  · clear hno
    go_enter Try.func12, Try.ntmps12
    go_wp2_with fail
    rw [← EV.out]
    refine IS0.out.mono ?_
    rintro e w1 ⟨rfl, m1, hw1⟩
    have R1 : Hid (Blk w1 (w.heap.size + 1) 26 #[.int .i64 0, .int .i64 0, .slice none 0 0]) := by rw [hw1]; exact R0.out.drewN _
    have V1 : Hid (Below w.heap.size w w1) := by rw [hw1]; exact below_drewN' V0.out _
    clear hw1
    go_wp2_with fail
    refine (L1.out _).mono ?_
    rintro e w1 ⟨rfl, hw1⟩
    obtain rfl := hw1
    go_wp2_with (first
      | (refine wpList_store_blk rfl _ _ _ rfl (w.heap.size + 1) 0 rfl _ rfl [.int .i64 0, .int .i64 0, .slice none 0 0] rfl 26 _ #[.int .i64 0, .int .i64 0, .slice none 0 0] R1.out (by kernel_rfl) (by simp) (by simp [Value.oneCell']) rfl ?_; intro w9 k9 g9)
      | fail)
    refine bodyPost_ret (results_row3 rfl _ w9 (w.heap.size + 1) 26 _ _ rfl k9 Try.underlying26 rfl (by kernel_rfl) _ _ rfl rfl) rfl ?_
    exact srRes_no (V1.out.grown g9 V1.out.size (fun j e => by injection e with e; omega))
  cases q2
  · clear hno
    go_enter Try.func12, Try.ntmps12
    go_wp2_with fail
    rw [← EV.out]
    refine IS0.out.mono ?_
    rintro e w1 ⟨rfl, m1, hw1⟩
    have R1 : Hid (Blk w1 (w.heap.size + 1) 26 #[.int .i64 0, .int .i64 0, .slice none 0 0]) := by rw [hw1]; exact R0.out.drewN _
    have V1 : Hid (Below w.heap.size w w1) := by rw [hw1]; exact below_drewN' V0.out _
    clear hw1
    go_wp2_with fail
    refine (L1.out _).mono ?_
    rintro e w1 ⟨rfl, hw1⟩
    obtain rfl := hw1
    go_wp2_with fail
    refine (L2.out _).mono ?_
    rintro e w1 ⟨rfl, hw1⟩
    obtain rfl := hw1
    go_wp2_with (first
      | (refine wpList_store_blk rfl _ _ _ rfl (w.heap.size + 1) 0 rfl _ rfl [.int .i64 0, .int .i64 0, .slice none 0 0] rfl 26 _ #[.int .i64 0, .int .i64 0, .slice none 0 0] R1.out (by kernel_rfl) (by simp) (by simp [Value.oneCell']) rfl ?_; intro w9 k9 g9)
      | fail)
    refine bodyPost_ret (results_row3 rfl _ w9 (w.heap.size + 1) 26 _ _ rfl k9 Try.underlying26 rfl (by kernel_rfl) _ _ rfl rfl) rfl ?_
    exact srRes_no (V1.out.grown g9 V1.out.size (fun j e => by injection e with e; omega))
  cases q3
  · clear hno
    go_enter Try.func12, Try.ntmps12
    go_wp2_with fail
    rw [← EV.out]
    refine IS0.out.mono ?_
    rintro e w1 ⟨rfl, m1, hw1⟩
    have R1 : Hid (Blk w1 (w.heap.size + 1) 26 #[.int .i64 0, .int .i64 0, .slice none 0 0]) := by rw [hw1]; exact R0.out.drewN _
    have V1 : Hid (Below w.heap.size w w1) := by rw [hw1]; exact below_drewN' V0.out _
    clear hw1
    go_wp2_with fail
    refine (L1.out _).mono ?_
    rintro e w1 ⟨rfl, hw1⟩
    obtain rfl := hw1
    go_wp2_with fail
    refine (L2.out _).mono ?_
    rintro e w1 ⟨rfl, hw1⟩
    obtain rfl := hw1
    go_wp2_with fail
    refine (L3.out _).mono ?_
    rintro e w1 ⟨rfl, hw1⟩
    obtain rfl := hw1
    go_wp2_with (first
      | (refine wpList_store_blk rfl _ _ _ rfl (w.heap.size + 1) 0 rfl _ rfl [.int .i64 0, .int .i64 0, .slice none 0 0] rfl 26 _ #[.int .i64 0, .int .i64 0, .slice none 0 0] R1.out (by kernel_rfl) (by simp) (by simp [Value.oneCell']) rfl ?_; intro w9 k9 g9)
      | fail)
    refine bodyPost_ret (results_row3 rfl _ w9 (w.heap.size + 1) 26 _ _ rfl k9 Try.underlying26 rfl (by kernel_rfl) _ _ rfl rfl) rfl ?_
    exact srRes_no (V1.out.grown g9 V1.out.size (fun j e => by injection e with e; omega))
  cases q4
  · clear hno
    go_enter Try.func12, Try.ntmps12
    go_wp2_with fail
    rw [← EV.out]
    refine IS0.out.mono ?_
    rintro e w1 ⟨rfl, m1, hw1⟩
    have R1 : Hid (Blk w1 (w.heap.size + 1) 26 #[.int .i64 0, .int .i64 0, .slice none 0 0]) := by rw [hw1]; exact R0.out.drewN _
    have V1 : Hid (Below w.heap.size w w1) := by rw [hw1]; exact below_drewN' V0.out _
    clear hw1
    go_wp2_with fail
    refine (L1.out _).mono ?_
    rintro e w1 ⟨rfl, hw1⟩
    obtain rfl := hw1
    go_wp2_with fail
    refine (L2.out _).mono ?_
    rintro e w1 ⟨rfl, hw1⟩
    obtain rfl := hw1
    go_wp2_with fail
    refine (L3.out _).mono ?_
    rintro e w1 ⟨rfl, hw1⟩
    obtain rfl := hw1
    go_wp2_with fail
    refine (L4.out _).mono ?_
    rintro e w1 ⟨rfl, hw1⟩
    obtain rfl := hw1
    go_wp2_with (first
      | (refine wpList_store_blk rfl _ _ _ rfl (w.heap.size + 1) 0 rfl _ rfl [.int .i64 0, .int .i64 0, .slice none 0 0] rfl 26 _ #[.int .i64 0, .int .i64 0, .slice none 0 0] R1.out (by kernel_rfl) (by simp) (by simp [Value.oneCell']) rfl ?_; intro w9 k9 g9)
      | fail)
    refine bodyPost_ret (results_row3 rfl _ w9 (w.heap.size + 1) 26 _ _ rfl k9 Try.underlying26 rfl (by kernel_rfl) _ _ rfl rfl) rfl ?_
    exact srRes_no (V1.out.grown g9 V1.out.size (fun j e => by injection e with e; omega))
  · cases hno
set_option maxRecDepth 100000 in
set_option maxHeartbeats 4000000 in
theorem implDropsOn_no (W H k0 st s0 : Int) (tk lv : Nat) (A : Option Addr) (n c : Nat) (xs : List Nat) (w : World) (hn : n ≤ maxLen) (hA : Rd w w.heap.size 1 A n (xs.map fv)) (hno : okDrops W H xs k0 st s0 tk lv = false) :
    Calls Try.prog 11 #[sheetV W H A n c, .int .i64 k0, .int .i64 st, .float .f32 tk, .float .f32 lv, .int .i64 s0] w (SrRes 0 0 [] 0 false w) := by
  obtain ⟨v, ev⟩ : ∃ v, v = (w.alloc (.cells #[.int .i64 W, .int .i64 H, .slice A n c] 26)).alloc (.cells #[.int .i64 0, .int .i64 0, .slice none 0 0] 26) := ⟨_, rfl⟩
  have K0 : Blk v w.heap.size 26 #[.int .i64 W, .int .i64 H, .slice A n c] := by rw [ev]; exact (Blk.new w _ _).alloc _
  have R0 : Hid (Blk v (w.heap.size + 1) 26 #[.int .i64 0, .int .i64 0, .slice none 0 0]) := by rw [ev]; exact Blk.new2 _ _ _ _
  have V0 : Hid (Below w.heap.size w v) := by rw [ev]; exact ((Below.refl _ _).alloc (Nat.le_refl _) _).alloc (by simp) _
  have A0 : Rd v v.heap.size 1 A n (xs.map fv) := (hA.below V0.out).more V0.out.size
  have EV := Lib.hid ev
  have IS0 := Lib.hid (areDrops_any W H st tk lv A n c xs v hn A0)
  have L1 := Lib.hid (fun w => within_any k0 0 128 w)
  have L2 := Lib.hid (fun w => isSeed_any s0 w)
  have b0 : v.cell? ⟨w.heap.size, 0, none⟩ = some (.int .i64 W) := K0.cell 0
  have b1 : v.cell? ⟨w.heap.size, 1, none⟩ = some (.int .i64 H) := K0.cell 1
  have b2 : v.cell? ⟨w.heap.size, 2, none⟩ = some (.slice A n c) := K0.cell 2
  rw [ev] at b0 b1 b2
  have hg1 : ¬ w.heap.size = w.heap.size + 1 := by omega
  have hno' : ((okSheet W H xs && inB st 0 128 && (okTake tk && okShare lv)) && inB k0 0 128 && inB s0 0 2147483647) = false := by
    unfold okDrops at hno
    revert hno
    cases okSheet W H xs <;> cases inB st 0 128 <;> cases inB k0 0 128 <;> cases inB s0 0 2147483647 <;> cases okTake tk <;> cases okShare lv <;> simp
  unfold sheetV
  clear ev K0 A0 hA hn hno
  generalize (okSheet W H xs && inB st 0 128 && (okTake tk && okShare lv)) = q0 at *
  generalize inB k0 0 128 = q1 at *
  generalize inB s0 0 2147483647 = q2 at *
  cases q0
  · clear hno'
    go_enter Try.func11, Try.ntmps11
    go_wp2_with fail
    rw [← EV.out]
    refine IS0.out.mono ?_
    rintro e w1 ⟨rfl, hb1⟩
    have R1 := Lib.hid (R0.out.below hb1 R0.out.lt)
    have V1 := Lib.hid (V0.out.trans (hb1.mono V0.out.size))
    clear hb1
    go_wp2_with (first
      | (refine wpList_store_blk rfl _ _ _ rfl (w.heap.size + 1) 0 rfl _ rfl [.int .i64 0, .int .i64 0, .slice none 0 0] rfl 26 _ #[.int .i64 0, .int .i64 0, .slice none 0 0] R1.out (by kernel_rfl) (by simp) (by simp [Value.oneCell']) rfl ?_; intro w9 k9 g9)
      | fail)
    refine bodyPost_ret (results_row3 rfl _ w9 (w.heap.size + 1) 26 _ _ rfl k9 Try.underlying26 rfl (by kernel_rfl) _ _ rfl rfl) rfl ?_
    exact srRes_no (V1.out.grown g9 V1.out.size (fun j e => by injection e with e; omega))
  cases q1
  · clear hno'
    go_enter Try.func11, Try.ntmps11
    go_wp2_with fail
    rw [← EV.out]
    refine IS0.out.mono ?_
    rintro e w1 ⟨rfl, hb1⟩
    have R1 := Lib.hid (R0.out.below hb1 R0.out.lt)
    have V1 := Lib.hid (V0.out.trans (hb1.mono V0.out.size))
    clear hb1
    go_wp2_with fail
    refine (L1.out _).mono ?_
    rintro e w1 ⟨rfl, hw1⟩
    obtain rfl := hw1
    go_wp2_with (first
      | (refine wpList_store_blk rfl _ _ _ rfl (w.heap.size + 1) 0 rfl _ rfl [.int .i64 0, .int .i64 0, .slice none 0 0] rfl 26 _ #[.int .i64 0, .int .i64 0, .slice none 0 0] R1.out (by kernel_rfl) (by simp) (by simp [Value.oneCell']) rfl ?_; intro w9 k9 g9)
      | fail)
    refine bodyPost_ret (results_row3 rfl _ w9 (w.heap.size + 1) 26 _ _ rfl k9 Try.underlying26 rfl (by kernel_rfl) _ _ rfl rfl) rfl ?_
    exact srRes_no (V1.out.grown g9 V1.out.size (fun j e => by injection e with e; omega))
  cases q2
  · clear hno'
    go_enter Try.func11, Try.ntmps11
    go_wp2_with fail
    rw [← EV.out]
    refine IS0.out.mono ?_
    rintro e w1 ⟨rfl, hb1⟩
    have R1 := Lib.hid (R0.out.below hb1 R0.out.lt)
    have V1 := Lib.hid (V0.out.trans (hb1.mono V0.out.size))
    clear hb1
    go_wp2_with fail
    refine (L1.out _).mono ?_
    rintro e w1 ⟨rfl, hw1⟩
    obtain rfl := hw1
    go_wp2_with fail
    refine (L2.out _).mono ?_
    rintro e w1 ⟨rfl, hw1⟩
    obtain rfl := hw1
    go_wp2_with (first
      | (refine wpList_store_blk rfl _ _ _ rfl (w.heap.size + 1) 0 rfl _ rfl [.int .i64 0, .int .i64 0, .slice none 0 0] rfl 26 _ #[.int .i64 0, .int .i64 0, .slice none 0 0] R1.out (by kernel_rfl) (by simp) (by simp [Value.oneCell']) rfl ?_; intro w9 k9 g9)
      | fail)
    refine bodyPost_ret (results_row3 rfl _ w9 (w.heap.size + 1) 26 _ _ rfl k9 Try.underlying26 rfl (by kernel_rfl) _ _ rfl rfl) rfl ?_
    exact srRes_no (V1.out.grown g9 V1.out.size (fun j e => by injection e with e; omega))
  · cases hno'
theorem okDrops_nat {W H k st s : Int} {tk lv : Nat} {xs : List Nat} (h : okDrops W H xs k st s tk lv = true) : ∃ W' H' k' st' s' : Nat, W = W' ∧ H = H' ∧ k = k' ∧ st = st' ∧ s = s' ∧ 1 ≤ W' ∧ W' ≤ 17 ∧ 1 ≤ H' ∧ H' ≤ 17 ∧ xs.length = W' * H' ∧ k' ≤ 128 ∧ st' ≤ 128 ∧ s' ≤ 2147483647 ∧ (okTake tk && okShare lv) = true ∧ xs.all finW = true := by
  unfold okDrops at h
  simp only [Bool.and_eq_true] at h
  obtain ⟨⟨⟨⟨h1, h2⟩, h3⟩, h5, h6⟩, h4⟩ := h
  obtain ⟨s1, s2, s3, s4, s5, s6⟩ := okSheet_sides h1
  rw [inB_iff] at h2 h3 h4
  have hl : xs.length = W.toNat * H.toNat := by
    have e1 : W = (W.toNat : Int) := by omega
    have e2 : H = (H.toNat : Int) := by omega
    rw [e1, e2] at s5
    rw [← Int.natCast_mul] at s5
    omega
  exact ⟨W.toNat, H.toNat, k.toNat, st.toNat, s.toNat, by omega, by omega, by omega, by omega, by omega, by omega, by omega, by omega, by omega, hl, by omega, by omega, by omega, by simp [h5, h6], s6⟩
theorem dsRes_pair (W H tk lv st k s : Nat) (xs : List Nat) (hW : 1 ≤ W) (hH : 1 ≤ H) (hl : xs.length = W * H) (hf : xs.all finW = true) : ∃ rw rh C x ok, C.length ≤ W * H ∧
    (∀ nx w e w', NxOk W H nx → DsRes nx W H tk lv st k s xs w e w' → SrRes rw rh C x ok w e w') := by
  by_cases h : ∃ nx Hf s', NxOk W H nx ∧ Many nx W H tk lv st k xs s (some (Hf, s'))
  · obtain ⟨nx, Hf, s', hn, hm⟩ := h
    refine ⟨W, H, Hf, s', true, by rw [many_len hm _ rfl, hl]; exact Nat.le_refl _, ?_⟩
    rintro nx' w e w' hn' (⟨Hf', s'', hm', h⟩ | ⟨hm', h⟩)
    · have := many_det hW hH hn hn' hm hl hf hm'
      injection this with this
      injection this with q1 q2
      subst q1 q2
      exact h
    · have := many_det hW hH hn hn' hm hl hf hm'
      cases this
  · refine ⟨0, 0, [], 0, false, by simp, ?_⟩
    rintro nx' w e w' hn' (⟨Hf', s'', hm', _⟩ | ⟨_, h'⟩)
    · exact absurd ⟨nx', Hf', s'', hn', hm'⟩ h
    · exact h'
theorem dropsOn_pair (wd hi p0 p1 : Int) (f0 f1 : Nat) (p2 : Int) (cs : List Nat) (hlen : cs.length ≤ maxLen) : ∃ rw rh C x ok, C.length ≤ 289 ∧
    (∀ A c w, Rd w w.heap.size 1 A cs.length (cs.map fv) → Calls Try.prog 12 #[sheetV wd hi A cs.length c, .int .i64 p0, .int .i64 p1, .float .f32 f0, .float .f32 f1, .int .i64 p2] w (SrRes rw rh C x ok w)) ∧
    (∀ A c w, Rd w w.heap.size 1 A cs.length (cs.map fv) → Calls Try.prog 11 #[sheetV wd hi A cs.length c, .int .i64 p0, .int .i64 p1, .float .f32 f0, .float .f32 f1, .int .i64 p2] w (SrRes rw rh C x ok w)) := by
  cases h : okDrops wd hi cs p0 p1 p2 f0 f1
  · exact ⟨0, 0, [], 0, false, by simp, fun A c w hA => specDropsOn_no wd hi p0 p1 p2 f0 f1 A _ c cs w hlen hA h, fun A c w hA => implDropsOn_no wd hi p0 p1 p2 f0 f1 A _ c cs w hlen hA h⟩
  · obtain ⟨W, H, k, st, s, rfl, rfl, rfl, rfl, rfl, h1, h2, h3, h4, hl, hk, hst, hs, hr, hf⟩ := okDrops_nat h
    obtain ⟨rw_, rh, C, n, ok, hC, hp⟩ := dsRes_pair W H f0 f1 st k s cs h1 h3 hl hf
    have := Nat.mul_le_mul h2 h4
    exact ⟨rw_, rh, C, n, ok, by omega,
      fun A c w hA => (specDropsOn_ok W H cs.length k s st f0 f1 A c cs w h1 h2 h3 h4 hl.symm rfl hk hst hs hr hf hA).mono fun e w' => hp _ w e w' (nxOk_S W H),
      fun A c w hA => (implDropsOn_ok W H cs.length k s st f0 f1 A c cs w h1 h2 h3 h4 hl.symm rfl hk hst hs hr hf hA).mono fun e w' => hp _ w e w' (nxOk_I W H)⟩
end Go.Proofs.Ytoibgpmpngccjaa

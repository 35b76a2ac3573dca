/- Walks: EmptyField, FlipCells. Conditions: sides of 1 to 16, lists that increase and lie in the field. -/
import Derived.Test.YtejmpijihmmajaaGma
namespace Go.Proofs.Ytejmpijihmmajaa
open Go.RowKit

theorem made_bool (n : Nat) : (madeCells (Value.bool false).cells (n * 1)).toList = (List.replicate n false).map bv := by
  have : ∀ v : Value, (madeCells #[v] (n * 1)).toList = List.replicate n v := by
    intro v
    unfold madeCells
    refine List.ext_getElem (by simp) fun i h1 h2 => ?_
    simp [Nat.mod_one]
  rw [List.map_replicate]
  exact this _
theorem valid_wh {W H N : Nat} (hW : 1 ≤ W) (hW' : W ≤ 16) (hH : 1 ≤ H) (hH' : H ≤ 16) (hP : W * H = N) : validB W H N = true := by
  unfold validB
  have hPI : (N : Int) = (W : Int) * (H : Int) := by rw [← hP]; simp
  rw [decide_eq_true_eq]
  exact ⟨by omega, by omega, by omega, by omega, hPI⟩
/-- A result: a field that is new, and true. -/
def FieldTrue (W H N : Nat) (cs : List Bool) (w : World) (e : Ending) (w' : World) : Prop :=
  ∃ g c, w.heap.size ≤ g ∧ e = .returned (.tuple #[fieldV W H (some ⟨g, 0, none⟩) N c, .bool true]) ∧ w'.ownsRow w.heap.size 4 1 (.slice (some ⟨g, 0, none⟩) N c) N (cs.map bv) ∧ Below w.heap.size w w'
set_option maxRecDepth 100000 in
set_option maxHeartbeats 1000000 in
theorem EmptyField_ok (W H N : Nat) (w : World) (hW : 1 ≤ W) (hW' : W ≤ 16) (hH : 1 ≤ H) (hH' : H ≤ 16) (hP : W * H = N) :
    Calls Try.prog 10 #[.int .i64 W, .int .i64 H] w (FieldTrue W H N (List.replicate N false) w) := by
  obtain ⟨i0, hi, hz0, hz1, hz2⟩ := info_parts boolInfo
  have hN256 : N ≤ 256 := by have := Nat.mul_le_mul hW' hH'; omega
  have hPI : (W : Int) * (H : Int) = (N : Int) := by rw [← hP]; simp
  have e1 : inB (W : Int) 1 16 = true := by unfold inB; simp; omega
  have e2 : inB (H : Int) 1 16 = true := by unfold inB; simp; omega
  obtain ⟨v, ev⟩ : ∃ v, v = w.alloc (.cells #[.int .i64 0, .int .i64 0, .slice none 0 0] 26) := ⟨_, rfl⟩
  have bR : Hid (Blk v w.heap.size 26 #[.int .i64 0, .int .i64 0, .slice none 0 0]) := by rw [ev]; exact Blk.new w _ _
  have B0 : Hid (Below w.heap.size w v) := by rw [ev]; exact (Below.refl _ _).alloc (Nat.le_refl _) _
  have hvz : v.heap.size = w.heap.size + 1 := by rw [ev]; simp
  have EV := Lib.hid ev
  have E1 := Lib.hid e1
  have E2 := Lib.hid e2
  have HVZ := Lib.hid hvz
  clear ev hP hvz e1 e2
  go_enter Try.func10, Try.ntmps10
  go_wp2_with fail
  rw [← EV.out]
  refine (isFieldSide_any _ _).mono ?_
  rintro e w5 ⟨rfl, h5⟩
  obtain rfl := h5.symm
  rw [E1.out]
  go_wp2_with fail
  refine (isFieldSide_any _ _).mono ?_
  rintro e w5 ⟨rfl, h5⟩
  obtain rfl := h5.symm
  rw [E2.out]
  have hsv := B0.out.size
  go_wp2_with (first
    | (at_make; refine wpList_make_full _ rfl _ _ _ rfl v.heap.size 4 i0 (.bool false) 1 Try.underlying24 hi hz0 hz1 .i64 .i64 N N N rfl rfl rfl rfl (by rw [hz2]; omega) (by unfold maxLen; omega) (Nat.le_refl _) ?_; intro w2 ho2 hg2
       have O2 : Hid (w2.ownsRow v.heap.size 4 1 (.slice (some ⟨v.heap.size, 0, none⟩) N N) N ((List.replicate N false).map bv)) := by rw [← made_bool]; exact Lib.hid ho2
       have R2 := Lib.hid (bR.out.grown hg2 (by simp))
       have B2 := Lib.hid (B0.out.grown hg2 hsv (by simp))
       clear ho2 hg2)
    | (refine wpList_store_blk rfl _ _ _ rfl w.heap.size 0 rfl _ rfl [.int .i64 W, .int .i64 H, .slice (some ⟨v.heap.size, 0, none⟩) N N] rfl 26 #[.int .i64 0, .int .i64 0, .slice none 0 0] #[.int .i64 W, .int .i64 H, .slice (some ⟨v.heap.size, 0, none⟩) N N] R2.out (by kernel_rfl) (by simp) (by simp [Value.oneCell']) rfl ?_; intro w3 R3 g3)
    | fail)
  refine bodyPost_ret (results_row2 rfl _ w3 w.heap.size 26 _ _ rfl R3 Try.underlying26 rfl (by kernel_rfl) _ rfl) rfl ?_
  refine ⟨v.heap.size, N, hsv, rfl, own_base (own_grown' O2.out g3 (own_blk_ne O2.out R2.out (by decide))) hsv, B2.out.grown g3 B2.out.size (fun k e => by injection e with e; omega)⟩
/-- The cells of a list flipped. -/
def flips (D : List Nat) (cs : List Bool) : List Bool := D.foldl (fun c i => c.set i (!c.getD i false)) cs
theorem flips_length (D : List Nat) : ∀ cs : List Bool, (flips D cs).length = cs.length := by
  induction D with
  | nil => intro cs; rfl
  | cons a D ih => intro cs; show (flips D (cs.set a _)).length = _; rw [ih]; simp
theorem flips_take {D : List Nat} {cs : List Bool} {k : Nat} (h : k < D.length) : flips (D.take (k + 1)) cs = (flips (D.take k) cs).set (D.getD k 0) (!(flips (D.take k) cs).getD (D.getD k 0) false) := by
  unfold flips
  have e : D.take (k + 1) = D.take k ++ [D.getD k 0] := by
    rw [List.take_add_one, List.getElem?_eq_getElem h, List.getD_eq_getElem?_getD, List.getElem?_eq_getElem h]; rfl
  rw [e, List.foldl_append]
  rfl
set_option maxRecDepth 100000 in
set_option maxHeartbeats 2000000 in
theorem FlipCells_ok (W H N : Nat) (A A2 : Option Addr) (c n2 c2 : Nat) (cs : List Bool) (D : List Nat) (w : World) (hW : 1 ≤ W) (hW' : W ≤ 16) (hH : 1 ≤ H) (hH' : H ≤ 16) (hP : W * H = N) (hl : cs.length = N) (hl2 : D.length = n2) (hn2 : n2 ≤ 1048576)
    (hD : ∀ x ∈ D, x < N) (hi : Inc D) (hA : Rd w w.heap.size 1 A N (cs.map bv)) (hA2 : Rd w w.heap.size 1 A2 n2 (D.map nv)) :
    Calls Try.prog 11 #[fieldV W H A N c, .slice A2 n2 c2] w (FieldTrue W H N (flips D cs) w) := by
  have hN1 : 1 ≤ N := by rw [← hP]; exact Nat.mul_pos hW hH
  have hN256 : N ≤ 256 := by have := Nat.mul_le_mul hW' hH'; omega
  obtain ⟨v, ev⟩ : ∃ v, v = (w.alloc (.cells #[.int .i64 W, .int .i64 H, .slice A N c] 26)).alloc (.cells #[.int .i64 0, .int .i64 0, .slice none 0 0] 26) := ⟨_, rfl⟩
  have B0 : Hid (Below w.heap.size w v) := by rw [ev]; exact ((Below.refl _ _).alloc (Nat.le_refl _) _).alloc (by simp) _
  have bI : Hid (Blk v w.heap.size 26 #[.int .i64 W, .int .i64 H, .slice A N c]) := by rw [ev]; exact (Blk.new w _ _).alloc _
  have bR : Hid (Blk v (w.heap.size + 1) 26 #[.int .i64 0, .int .i64 0, .slice none 0 0]) := by rw [ev]; exact Blk.new2 _ _ _ _
  have hvz : v.heap.size = w.heap.size + 1 + 1 := by rw [ev]; simp
  have hsz0 := B0.out.size
  have EV := Lib.hid ev
  have VF := ValidField_any (W : Int) (H : Int) A N c v
  rw [valid_wh hW hW' hH hH' hP] at VF
  unfold fieldV at VF
  have VFH := Lib.hid VF
  have HL := Lib.hid hl
  have HL2 := Lib.hid hl2
  have HD := Lib.hid hD
  have HI := Lib.hid hi
  have HA := Lib.hid hA
  have HA2 := Lib.hid hA2
  have HVZ := Lib.hid hvz
  clear ev VF hl hl2 hD hi hA hA2 hP hvz
  unfold fieldV
  go_enter Try.func11, Try.ntmps11
  go_wp2_with fail
  rw [← EV.out]
  refine VFH.out.mono ?_
  rintro e w1 ⟨rfl, hb1⟩
  have HB1 := Lib.hid (B0.out.trans (hb1.mono hsz0))
  have I1 := Lib.hid (bI.out.below hb1 bI.out.lt)
  have R1 := Lib.hid (bR.out.below hb1 bR.out.lt)
  have hz1 : v.heap.size ≤ w1.heap.size := hb1.size
  clear hb1
  go_wp2_with fail
  refine (isIncreasing_ok A2 n2 c2 w.heap.size D w1 hn2 HL2.out HB1.out.size (HA2.out.below HB1.out) HI.out).mono ?_
  rintro e w2 ⟨rfl, hb2⟩
  have HB2 := Lib.hid (HB1.out.trans (hb2.mono HB1.out.size))
  have I2 := Lib.hid (I1.out.below hb2 I1.out.lt)
  have R2 := Lib.hid (R1.out.below hb2 R1.out.lt)
  have hz2 : v.heap.size ≤ w2.heap.size := Nat.le_trans hz1 hb2.size
  have i2 := I2.out.cell 2
  clear hb2
  go_wp2_with fail
  refine (areWithin_w A2 n2 c2 N D w2 hn2 HL2.out ((HA2.out.below HB2.out).more HB2.out.size) HD.out hN1 hN256).mono ?_
  rintro e w3 ⟨rfl, hb3⟩
  have HB3 := Lib.hid (HB2.out.trans (hb3.mono HB2.out.size))
  have I3 := Lib.hid (I2.out.below hb3 I2.out.lt)
  have R3 := Lib.hid (R2.out.below hb3 R2.out.lt)
  have hz3 : v.heap.size ≤ w3.heap.size := Nat.le_trans hz2 hb3.size
  have i30 := I3.out.cell 0
  have i31 := I3.out.cell 1
  have i32 := I3.out.cell 2
  clear hb3 i2
  have CF := copyField_any (W : Int) (H : Int) N A c cs w3 hN1 hN256 HL.out ((HA.out.below HB3.out).more HB3.out.size)
  unfold fieldV at CF
  have CFH := Lib.hid CF
  clear CF
  go_wp2_with fail
  refine CFH.out.mono ?_
  rintro e w4 ⟨A4, c4, rfl, ho4, hb4⟩
  have HB4 := Lib.hid (HB3.out.trans (hb4.mono HB3.out.size))
  have R4 := Lib.hid (R3.out.below hb4 R3.out.lt)
  have hz4 : v.heap.size ≤ w4.heap.size := Nat.le_trans hz3 hb4.size
  have O4 := Lib.hid ho4
  clear ho4 hb4 i30 i31 i32
  unfold fieldV
  go_wp2_with (first
    | (refine wpList_store_blk rfl _ _ _ rfl w4.heap.size 0 rfl _ rfl [.int .i64 W, .int .i64 H, .slice A4 N c4] rfl 26 #[.int .i64 0, .int .i64 0, .slice none 0 0] #[.int .i64 W, .int .i64 H, .slice A4 N c4] (Blk.new _ _ _) (by kernel_rfl) (by simp) (by simp [Value.oneCell']) rfl ?_; intro w5 X5 g5)
    | fail)
  have hz5 := g5.size
  simp only [World.size_alloc] at hz5
  have HB5 := Lib.hid (below_boxed HB4.out HB4.out.size g5)
  have R5 := Lib.hid (blk_boxed R4.out g5)
  have O5 := Lib.hid (own_base (base' := w.heap.size) (own_boxed O4.out g5) (by have := HB3.out.size; exact this))
  have HX5 := Lib.hid X5
  clear X5 g5 O4 R4 HB4
  obtain ⟨ga, ca, hva, _, hga⟩ := O5.out.form (by omega)
  obtain ⟨rfl, rfl⟩ : A4 = some ⟨ga, 0, none⟩ ∧ c4 = ca := by injection hva with q1 _ q3; exact ⟨q1, q3⟩
  clear hva
  have hga0 : w.heap.size ≤ ga := (O5.out.lt ga rfl).1
  go_loopw [31] (fun si wr => ∃ k : Nat, k ≤ n2 ∧ si = .int .i64 (k : Int) ∧ Hid (wr.ownsRow w.heap.size 4 1 (.slice (some ⟨ga, 0, none⟩) N c4) N ((flips (D.take k) cs).map bv)) ∧ Hid (Blk wr w4.heap.size 26 #[.int .i64 W, .int .i64 H, .slice (some ⟨ga, 0, none⟩) N c4]) ∧
      Hid (Blk wr (w.heap.size + 1) 26 #[.int .i64 0, .int .i64 0, .slice none 0 0]) ∧ Hid (Below w.heap.size w wr)) (fun i _ => n2 - (intOf i).toNat)
  case atStart => exact ⟨0, Nat.zero_le _, rfl, O5, HX5, R5, HB5⟩
  case round =>
    obtain ⟨k, hk, rfl, HO, HX, HR, HB⟩ := hrel
    clear O5 HX5 R5 HB5
    by_cases hlt : k < n2
    · obtain ⟨b, off, rfl, hbb, hc⟩ := HA2.out.2 (by omega)
      have c1 := (HB.out.cell (p := ⟨b, off + k, none⟩) hbb).trans (hc k _ (nv_get HL2.out hlt))
      have hkD : k < D.length := by rw [HL2.out]; exact hlt
      have hyN : D.getD k 0 < N := HD.out _ (by rw [List.getD_eq_getElem?_getD, List.getElem?_eq_getElem hkD]; exact List.getElem_mem hkD)
      have SF := Lib.hid (flips_take (cs := cs) hkD)
      have hfl : (flips (D.take k) cs).length = N := by rw [flips_length, HL.out]
      have cB : wr.cell? ⟨ga, D.getD k 0, none⟩ = some (.bool ((flips (D.take k) cs).getD (D.getD k 0) false)) := by rw [HO.out.cellAt _ (by omega), bv_at hfl hyN]
      have fB : wr.frozen? ⟨ga, D.getD k 0, none⟩ = false := HO.out.frozenAt _
      have x2 : wr.cell? ⟨w4.heap.size, 2, none⟩ = some (.slice (some ⟨ga, 0, none⟩) N c4) := HX.out.cell 2
      obtain ⟨ho6, hg6⟩ := HO.out.stored (D.getD k 0) (.bool (!(flips (D.take k) cs).getD (D.getD k 0) false))
      have O6 := Lib.hid ho6
      have X6 := Lib.hid (HX.out.grown hg6 (own_blk_ne HO.out HX.out (by decide)))
      have R6 := Lib.hid (HR.out.grown hg6 (own_blk_ne HO.out HR.out (by decide)))
      have B6 := Lib.hid (HB.out.grown hg6 HB.out.size (fun j e => by injection e with e; omega))
      have O7 : Hid ((wr.setCell ⟨ga, D.getD k 0, none⟩ (.bool (!(flips (D.take k) cs).getD (D.getD k 0) false))).ownsRow w.heap.size 4 1 (.slice (some ⟨ga, 0, none⟩) N c4) N ((flips (D.take (k + 1)) cs).map bv)) := by
        rw [SF.out, List.map_set]; exact O6
      clear ho6 hg6 hc HO HX HR HB O6 SF hfl
      generalize (flips (D.take k) cs).getD (D.getD k 0) false = bb at *
      generalize D.getD k 0 = y at *
      have hyI : (y : Int) < (N : Int) := by omega
      go_wp2
      go_region
      go_wp2
      go_roundw
      case rel => exact ⟨k + 1, by omega, by go_num, Lib.hid O7.out.drew, Lib.hid X6.out.drew, Lib.hid R6.out.drew, Lib.hid B6.out.drew⟩
      case measure => simp [intOf]; omega
    · obtain rfl : k = n2 := by omega
      have HOe : Hid (wr.ownsRow w.heap.size 4 1 (.slice (some ⟨ga, 0, none⟩) N c4) N ((flips D cs).map bv)) := by
        have := HO.out
        rw [List.take_of_length_le (by rw [HL2.out]; exact Nat.le_refl _)] at this
        exact this
      have x0 := HX.out.cell 0
      have x1 := HX.out.cell 1
      have x2 := HX.out.cell 2
      go_wp2_with (first
        | (refine wpList_store_blk rfl _ _ _ rfl (w.heap.size + 1) 0 rfl _ rfl [.int .i64 W, .int .i64 H, .slice (some ⟨ga, 0, none⟩) N c4] rfl 26 #[.int .i64 0, .int .i64 0, .slice none 0 0] #[.int .i64 W, .int .i64 H, .slice (some ⟨ga, 0, none⟩) N c4] HR.out (by kernel_rfl) (by simp) (by simp [Value.oneCell']) rfl ?_; intro w8 R8 g8)
        | fail)
      refine bodyPost_ret (results_row2 rfl _ w8 (w.heap.size + 1) 26 _ _ rfl R8 Try.underlying26 rfl (by kernel_rfl) _ rfl) rfl ?_
      exact ⟨ga, c4, hga0, rfl, own_grown' HOe.out g8 (own_blk_ne HOe.out HR.out (by decide)), HB.out.grown g8 HB.out.size (fun j e => by injection e with e; omega)⟩
end Go.Proofs.Ytejmpijihmmajaa

/- Walks: the laws' own functions on sheets. (printed by gen_sheet.py) Conditions: as each says. -/
import Derived.Test.YtefbjiipkoofkaaFy
import Derived.Test.YtefbjiipkoofkaaApp
import Derived.Deep.RegionHeld3
namespace Go.Proofs.Ytefbjiipkoofkaa
open Go.RowKit
attribute [local go_sem] run_store_fl

/-- A sheet as a value. -/
def sheetV (wd hi : Int) (A : Option Addr) (n c : Nat) : Value := .agg #[.int .i64 wd, .int .i64 hi, .slice A n c]
def mfv (k j : Nat) : Value := .float .f32 (floatOfInt .f32 ((k : Int) + (j : Int)))
theorem fltInfo : (Try.prog.info? 25).map (fun i => (i.zero, i.size, i.bytes)) = some (some (.float .f32 0), 1, 4) := by kernel_rfl
theorem order_write (s : Bool) (m : Nat) (e : Int) : Ieee.single.order (Ieee.single.nearest s m e) (Ieee.single.nearest s m e) = some .eq := by
  have hsw : Ieee.single.signWeight = 2147483648 := by decide
  have hbin : Ieee.single.binade = 8388608 := by decide
  have hinf : Ieee.single.infRung = 2139095040 := by decide
  have key : ∃ q, q ≤ 2139095040 ∧ Ieee.single.nearest s m e = Ieee.single.word s q := by
    unfold Ieee.Format.nearest
    split
    · exact ⟨0, by decide, rfl⟩
    · refine ⟨_, ?_, rfl⟩
      rw [hinf]
      exact Nat.min_le_right _ _
  obtain ⟨q, hq, hw⟩ := key
  rw [hw]
  rcases order_self Ieee.single (Ieee.single.word s q) with h | h
  · exact h
  · exfalso
    have hr : Ieee.single.word s q % 2147483648 = q := by
      unfold Ieee.Format.word
      rw [hsw]
      split <;> omega
    have hd : (∃ a b c, Ieee.single.read (Ieee.single.word s q) = .number a b c) ∨ ∃ a, Ieee.single.read (Ieee.single.word s q) = .infinity a := by
      unfold Ieee.Format.read
      rw [hsw, hbin, hinf, hr]
      simp only
      by_cases h1 : q < 8388608
      · rw [if_pos h1]
        exact .inl ⟨_, _, _, rfl⟩
      · rw [if_neg h1]
        by_cases h2 : q < 2139095040
        · rw [if_pos h2]
          exact .inl ⟨_, _, _, rfl⟩
        · rw [if_neg h2, if_pos (by omega)]
          exact .inr ⟨_, rfl⟩
    unfold Ieee.Format.order at h
    rcases hd with ⟨a, b, c, e⟩ | ⟨a, e⟩ <;> rw [e] at h <;> simp [Ieee.Datum.order] at h
theorem order_int (n : Int) : (FloatKind.f32.format.order (floatOfInt .f32 n) (floatOfInt .f32 n) != some Ordering.eq) = false := by
  have : FloatKind.f32.format.order (floatOfInt .f32 n) (floatOfInt .f32 n) = some .eq := order_write _ _ _
  rw [this]
  rfl
set_option maxRecDepth 100000 in
set_option maxHeartbeats 400000 in
theorem markFloat32S_any (A : Option Addr) (n c k base : Nat) (xs : List Value) (w : World) (hk : k + n < 2147483648)
    (hown : w.ownsRow base 25 1 (.slice A n c) n xs) :
    Calls Try.prog 27 #[.slice A n c, .int .i64 k] w fun e w' => e = .returned (.int .i64 ((k + n : Nat) : Int)) ∧
      w'.ownsRow base 25 1 (.slice A n c) n ((List.range n).map (mfv k)) ∧ w.grownBy w' (Value.slice A n c).ownBlock := by
  have hlen : xs.length = n := by have := hown.1; omega
  go_enter Try.func27, Try.ntmps27
  go_wp2
  go_loopw [1, 5] (fun kv i wr => ∃ j : Nat, j ≤ n ∧ i = .int .i64 j ∧ kv = .int .i64 ((k + j : Nat) : Int) ∧ wr.ownsRow base 25 1 (.slice A n c) n (filled (mfv k) j xs) ∧ w.grownBy wr (Value.slice A n c).ownBlock) (fun _ i _ => n - (intOf i).toNat)
  case atStart => exact ⟨0, Nat.zero_le _, rfl, by simp, by simpa [filled_zero] using hown, World.grownBy.refl _ _⟩
  case round =>
    obtain ⟨j, hj, rfl, rfl, ho, hg⟩ := hrel
    by_cases hlt : j < n
    · obtain ⟨g, cap, hv, _, hgl⟩ := ho.form (by omega)
      obtain ⟨rfl, rfl⟩ : A = some ⟨g, 0, none⟩ ∧ c = cap := by injection hv with h1 _ h3; exact ⟨h1, h3⟩
      have f1 : j < (filled (mfv k) j xs).length := by rw [filled_len _ (by omega)]; omega
      have cA : wr.cell? ⟨g, j, none⟩ = some (filled (mfv k) j xs)[j] := by rw [ho.cellAt _ (by omega), List.getElem?_eq_getElem f1]
      have fA : wr.frozen? ⟨g, j, none⟩ = false := ho.frozenAt _
      obtain ⟨ho1, hg1⟩ := ho.stored j (mfv k j)
      rw [filled_set _ (by omega) _ rfl] at ho1
      go_wp2
      go_roundw
      case rel => exact ⟨j + 1, by omega, by go_num, by simp [Int.add_assoc], ho1, grown_trans' hg hg1⟩
      case measure => simp [intOf]; omega
    · obtain rfl : j = n := by omega
      go_wp2
      go_ret
      refine ⟨by simp, ?_, hg⟩
      have := filled_all (mfv k) xs
      rw [hlen] at this
      rwa [this] at ho

set_option maxRecDepth 100000 in
set_option maxHeartbeats 400000 in
theorem heldFloat32S_any (A : Option Addr) (n c k : Nat) (w : World) (hk : k + n < 2147483648)
    (hA : Rd w w.heap.size 1 A n ((List.range n).map (mfv k))) :
    Calls Try.prog 28 #[.slice A n c, .int .i64 k] w fun e w' => e = .returned (.int .i64 ((k + n : Nat) : Int)) ∧ w' = w := by
  go_enter Try.func28, Try.ntmps28
  go_wp2
  go_loop [1, 5] (fun kv i => ∃ j : Nat, j ≤ n ∧ i = .int .i64 j ∧ kv = .int .i64 ((k + j : Nat) : Int)) (fun _ i => n - (intOf i).toNat)
  case atStart => exact ⟨0, Nat.zero_le _, rfl, by simp⟩
  case round =>
    obtain ⟨j, hj, rfl, rfl⟩ := hrel
    by_cases hlt : j < n
    · obtain ⟨b, off, rfl, hbb, hc⟩ := hA.2 (by omega)
      have c1 : w.cell? ⟨b, off + j, none⟩ = some (.float .f32 (floatOfInt .f32 ((k : Int) + (j : Int)))) := hc _ _ (range_map_get _ (by omega))
      have ho := order_int ((k : Int) + (j : Int))
      clear hc
      go_wp2
      go_round
      case rel => exact ⟨j + 1, by omega, by go_num, by simp [Int.add_assoc]⟩
      case measure => simp [intOf]; omega
    · obtain rfl : j = n := by omega
      go_wp2
      go_ret
      exact ⟨by simp, rfl⟩
set_option maxRecDepth 100000 in
set_option maxHeartbeats 400000 in
theorem toFloat32S_any (A : Option Addr) (n c : Nat) (xs : List Nat) (w : World) (hn : n ≤ 1048576) (hA : Rd w w.heap.size 1 A n (xs.map fv)) :
    Calls Try.prog 20 #[.slice A n c] w fun e w' => ∃ A', e = .returned (.slice A' n n) ∧ w'.ownsRow w.heap.size 25 1 (.slice A' n n) n (xs.map fv) ∧ Below w.heap.size w w' := by
  obtain ⟨i0, hi, hz0, hz1, hz2⟩ := info_parts fltInfo
  have hl : xs.length = n := by have := hA.len; simpa using this
  go_enter Try.func20, Try.ntmps20
  go_wp2_with (at_make; refine wpList_make_full _ rfl _ _ _ rfl w.heap.size 25 i0 (.float .f32 0) 1 Try.underlying22 hi hz0 hz1 .i64 .i64 n n n rfl rfl rfl rfl (by rw [hz2]; omega) (by unfold maxLen; omega) (Nat.le_refl _) ?_; intro w1 ho1 hg1)
  have hml : (madeCells (Value.float .f32 0).cells (n * 1)).toList.length = n := by have := ho1.1; omega
  generalize (madeCells (Value.float .f32 0).cells (n * 1)).toList = zs at *
  go_loopw [4] (fun i wr => ∃ j : Nat, j ≤ n ∧ i = .int .i64 j ∧ wr.ownsRow w.heap.size 25 1 (.slice (some ⟨w.heap.size, 0, none⟩) n n) n (filled (fun j => fv (xs.getD j 0)) j zs) ∧ Below w.heap.size w wr) (fun i _ => n - (intOf i).toNat)
  case atStart => exact ⟨0, Nat.zero_le _, rfl, by simpa [filled_zero] using ho1, below_of_grown hg1 (Nat.le_refl _) (by simp)⟩
  case round =>
    obtain ⟨j, hj, rfl, ho, hb⟩ := hrel
    by_cases hlt : j < n
    · obtain ⟨b, off, rfl, hbb, hc⟩ := hA.2 (by omega)
      have hkl : j < xs.length := by omega
      have ex : (xs.map fv)[j]? = some (.float .f32 (xs.getD j 0)) := by rw [List.getElem?_map, List.getElem?_eq_getElem hkl, List.getD_eq_getElem?_getD, List.getElem?_eq_getElem hkl]; rfl
      have c1 : wr.cell? ⟨b, off + j, none⟩ = some (.float .f32 (xs.getD j 0)) := (hb.cell hbb).trans (hc _ _ ex)
      obtain ⟨ho2, hg2⟩ := ho.stored j (fv (xs.getD j 0))
      rw [filled_set _ (by omega) _ rfl] at ho2
      have f1 : j < (filled (fun j => fv (xs.getD j 0)) j zs).length := by rw [filled_len _ (by omega)]; omega
      have cA : wr.cell? ⟨w.heap.size, j, none⟩ = some (filled (fun j => fv (xs.getD j 0)) j zs)[j] := by rw [ho.cellAt _ (by omega), List.getElem?_eq_getElem f1]
      have fA : wr.frozen? ⟨w.heap.size, j, none⟩ = false := ho.frozenAt _
      clear hc ex
      generalize xs.getD j 0 = p at *
      have HO := Lib.hid ho2
      have HG := Lib.hid (hb.grown hg2 hb.size (by simp))
      clear ho2 hg2 ho
      go_wp2
      go_roundw
      case rel => exact ⟨j + 1, by omega, by go_num, HO.out, HG.out⟩
      case measure => simp [intOf]; omega
    · obtain rfl : j = n := by omega
      go_wp2
      go_ret
      refine ⟨_, rfl, ?_, hb⟩
      have e : filled (fun j => fv (xs.getD j 0)) j zs = xs.map fv := by
        have h := filled_all (fun j => fv (xs.getD j 0)) zs
        rw [hml] at h
        rw [h]
        refine List.ext_getElem (by simp; omega) (fun i h1 h2 => ?_)
        simp at h1 h2
        simp [List.getD_eq_getElem?_getD, List.getElem?_eq_getElem h2]
      rwa [e] at ho
set_option maxHeartbeats 400000 in
theorem szSheet_any (wd hi : Int) (A : Option Addr) (n c : Nat) (l : Int) (w : World) (hn : n ≤ maxLen) (h0 : 0 ≤ l) (h1 : l ≤ 1048576) :
    Calls Try.prog 5 #[.agg #[.int .i64 wd, .int .i64 hi, .slice A n c], .int .i64 l] w fun e w' => e = .returned (.int .i64 (if l - n < 0 then -1 else l - n)) ∧ Below w.heap.size w w' := by
  by_cases h : l - n < 0
  all_goals
    have hh := Lib.hid h
    clear h
    go_enter Try.func5, Try.ntmps5
    go_wp2_with fail
    refine (szFloat32S_any A n c l _ hn h0 h1).mono ?_
    rintro e w1 ⟨rfl, rfl⟩
    have h := hh.out
    first | rw [if_pos (by omega)] | rw [if_neg (by omega)]
    go_wp2
    go_ret
    exact ⟨rfl, by go_grown⟩

set_option maxRecDepth 100000 in
set_option maxHeartbeats 400000 in
theorem toSheet_any (wd hi : Int) (A : Option Addr) (n c : Nat) (xs : List Nat) (w : World) (hn : n ≤ 1048576) (hA : Rd w w.heap.size 1 A n (xs.map fv)) :
    Calls Try.prog 7 #[.agg #[.int .i64 wd, .int .i64 hi, .slice A n c]] w fun e w' => ∃ A', e = .returned (sheetV wd hi A' n n) ∧ w'.ownsRow w.heap.size 25 1 (.slice A' n n) n (xs.map fv) ∧ Below w.heap.size w w' := by
  have hb0 : ∀ o o' o'', Below w.heap.size w (((w.alloc o).alloc o').alloc o'') := fun o o' o'' => (((Below.refl _ _).alloc (Nat.le_refl _) _).alloc (by simp) _).alloc (by simp; omega) _
  have H0 := Lib.hid hb0
  clear hb0
  go_enter Try.func7, Try.ntmps7
  go_wp2_with fail
  refine (toFloat32S_any A n c xs _ hn ((hA.below (H0.out _ _ _)).more (by simp; omega))).mono ?_
  rintro e w1 ⟨A', rfl, ho, hb1⟩
  have ka : Blk w1 (w.heap.size + 1) 27 #[.int .i64 0, .int .i64 0, .slice none 0 0] := Blk.below ((Blk.at_ _ _ _ (by simp)).alloc _) hb1 (by simp)
  have kb : Blk w1 (w.heap.size + 1 + 1) 27 #[.int .i64 wd, .int .i64 hi, .slice none 0 0] := Blk.below (Blk.at_ _ _ _ (by simp)) hb1 (by simp)
  have hz1 := hb1.size
  simp only [World.size_alloc] at hz1
  have W1 := Lib.hid ((H0.out _ _ _).trans (hb1.mono (by simp; omega)))
  have HO := Lib.hid ho
  clear ho hb1
  go_wp2_with (first
    | (refine wpList_store_blk rfl _ _ _ rfl (w.heap.size + 1 + 1) 2 rfl _ rfl [.slice A' n n] rfl 27 _ #[.int .i64 wd, .int .i64 hi, .slice A' n n] kb (by kernel_rfl) (by simp) (by simp [Value.oneCell']) rfl ?_; intro w2 k2 g2
       have ka2 := ka.grown g2 (by simp))
    | (refine wpList_load_blk rfl _ _ rfl (w.heap.size + 1 + 1) 0 rfl 27 _ k2 [.int .i64 wd, .int .i64 hi, .slice A' n n] rfl _ Try.underlying27 rfl (by kernel_rfl) ?_)
    | (refine wpList_store_blk rfl _ _ _ rfl (w.heap.size + 1) 0 rfl _ rfl [.int .i64 wd, .int .i64 hi, .slice A' n n] rfl 27 _ #[.int .i64 wd, .int .i64 hi, .slice A' n n] ka2 (by kernel_rfl) (by simp) (by simp [Value.oneCell']) rfl ?_; intro w3 k3 g3)
    | fail)
  refine bodyPost_ret (results_cell_row rfl _ w3 (w.heap.size + 1) 27 _ (0, 0) _ rfl k3 Try.underlying27 rfl (by kernel_rfl)) rfl ?_
  have hz2 := g2.size
  exact ⟨A', rfl, own_base (own_grown (own_grown HO.out g2 (by simp)) g3 (by simp)) (by simp; omega), (W1.out.grown g2 (by omega) (by simp; omega)).grown g3 (by omega) (by simp)⟩

set_option maxRecDepth 100000 in
set_option maxHeartbeats 400000 in
theorem eqSheet_same (wd hi : Int) (A A' : Option Addr) (n c c' : Nat) (xs : List Nat) (w : World) (hn : n ≤ maxLen)
    (hA : Rd w w.heap.size 1 A n (xs.map fv)) (hA' : Rd w w.heap.size 1 A' n (xs.map fv)) :
    Calls Try.prog 9 #[sheetV wd hi A n c, sheetV wd hi A' n c'] w fun e w' => e = .returned (.bool true) ∧ Below w.heap.size w w' := by
  have hb0 : ∀ o o', Below w.heap.size w ((w.alloc o).alloc o') := fun o o' => ((Below.refl _ _).alloc (Nat.le_refl _) _).alloc (by simp) _
  have H0 := Lib.hid hb0
  clear hb0
  unfold sheetV
  go_enter Try.func9, Try.ntmps9
  go_wp2_with fail
  refine (eqFloat32S_same A A' n c c' xs _ hn ((hA.below (H0.out _ _)).more (by simp; omega)) ((hA'.below (H0.out _ _)).more (by simp; omega))).mono ?_
  rintro e w1 ⟨rfl, hb1⟩
  go_wp2
  go_ret
  exact ⟨rfl, (H0.out _ _).trans (hb1.mono (by simp; omega))⟩

theorem markSheet_any (wd hi : Int) (A : Option Addr) (n c k base : Nat) (xs : List Value) (w : World) (hk : k + n < 2147483648)
    (hown : w.ownsRow base 25 1 (.slice A n c) n xs) :
    Calls Try.prog 10 #[sheetV wd hi A n c, .int .i64 k] w fun e w' => e = .returned (.int .i64 ((k + n : Nat) : Int)) ∧
      w'.ownsRow base 25 1 (.slice A n c) n ((List.range n).map (mfv k)) ∧ w.grownBy w' (Value.slice A n c).ownBlock := by
  have hg0 : ∀ o, w.grownBy (w.alloc o) (Value.slice A n c).ownBlock := fun o => World.grownBy_alloc w o _
  have H0 := Lib.hid hg0
  clear hg0
  unfold sheetV
  go_enter Try.func10, Try.ntmps10
  go_wp2_with fail
  refine (markFloat32S_any A n c k base xs _ hk (hown.alloc _)).mono ?_
  rintro e w1 ⟨rfl, ho1, hg1⟩
  go_wp2
  go_ret
  exact ⟨rfl, ho1, grown_trans' (H0.out _) hg1⟩

theorem heldSheet_any (wd hi : Int) (A : Option Addr) (n c k : Nat) (w : World) (hk : k + n < 2147483648)
    (hA : Rd w w.heap.size 1 A n ((List.range n).map (mfv k))) :
    Calls Try.prog 11 #[sheetV wd hi A n c, .int .i64 k] w fun e w' => e = .returned (.int .i64 ((k + n : Nat) : Int)) ∧ Below w.heap.size w w' := by
  have hb0 : ∀ o, Below w.heap.size w (w.alloc o) := fun o => (Below.refl _ _).alloc (Nat.le_refl _) _
  have H0 := Lib.hid hb0
  clear hb0
  unfold sheetV
  go_enter Try.func11, Try.ntmps11
  go_wp2_with fail
  refine (heldFloat32S_any A n c k _ hk ((hA.below (H0.out _)).more (by simp))).mono ?_
  rintro e w1 ⟨rfl, rfl⟩
  go_wp2
  go_ret
  exact ⟨rfl, H0.out _⟩
end Go.Proofs.Ytefbjiipkoofkaa

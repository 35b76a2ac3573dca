/- Walks: sums of heights, sameness of sheets, the least and the greatest height, sheets given if they are valid, flat sheets. Conditions: as each says. -/
import Derived.Test.YtoibgpmpngccjaaHd
import Derived.Test.YtoibgpmpngccjaaHc
import Derived.Test.YtoibgpmpngccjaaSlb
import Derived.Test.YtoibgpmpngccjaaSlr
import Derived.Test.YtoibgpmpngccjaaHo
import Derived.Test.YtoibgpmpngccjaaSla
import Derived.Test.YtoibgpmpngccjaaMe
import Derived.Deep.Quiet
import Derived.Deep.QuietTactic
import Derived.BigQuiet
namespace Go.Proofs.Ytoibgpmpngccjaa
open Go.RowKit
open Num Quick
attribute [local go_sem] run_store_fl

theorem fv_at {xs : List Nat} {n k : Nat} (hl : xs.length = n) (h : k < n) : (xs.map fv)[k]? = some (.float .f32 (xs.getD k 0)) := by
  have : k < xs.length := by omega
  rw [List.getElem?_map, List.getD_eq_getElem?_getD, List.getElem?_eq_getElem this]
  rfl
theorem sumOf_calls (A : Option Addr) (n c B : Nat) (xs : List Nat) (sm : Nat → Nat) (w : World) (hn : n ≤ maxLen) (hl : xs.length = n) (hA : Rd w B 1 A n (xs.map fv)) (h0 : sm 0 = 0) (hs : ∀ k, k < n → floatBits .add .f32 (sm k) (xs.getD k 0) = some (sm (k + 1))) :
    Calls Try.prog 41 #[.slice A n c] w fun e w' => e = .returned (.float .f32 (sm n)) ∧ w' = w := by
  have HS := Lib.hid hs
  have HL := Lib.hid hl
  have HA := Lib.hid hA
  have H0 := Lib.hid h0
  unfold maxLen at hn
  clear hs hl hA h0
  go_enter Try.func41, Try.ntmps41
  go_wp2
  go_loopw [3, 8] (fun ss si wr => ∃ k : Nat, k ≤ n ∧ si = .int .i64 (k : Int) ∧ ss = .float .f32 (sm k) ∧ Hid (wr = w)) (fun _ si _ => n - (intOf si).toNat)
  case atStart => exact ⟨0, Nat.zero_le _, rfl, by rw [H0.out], rfl⟩
  case round =>
    obtain ⟨k, hk, rfl, rfl, HW⟩ := hrel
    obtain rfl := HW.out
    by_cases hlt : k < n
    · obtain ⟨b, off, rfl, hbb, hc⟩ := HA.out.2 (by omega)
      have e0 : wr.cell? ⟨b, off + k, none⟩ = some (.float .f32 (xs.getD k 0)) := hc _ _ (fv_at HL.out hlt)
      have hki : (k : Int) < (n : Int) := by omega
      have hr := r32 (HS.out k hlt)
      clear hc
      generalize xs.getD k 0 = x at e0 hr
      go_wp2
      go_roundw
      case rel => exact ⟨k + 1, by omega, by go_num, rfl, Lib.hid trivial⟩
      case measure => simp [intOf]; omega
    · obtain rfl : k = n := by omega
      go_wp2
      go_ret
      exact ⟨rfl, rfl⟩
theorem MassOf_calls (W H N : Nat) (A : Option Addr) (c : Nat) (xs : List Nat) (sm : Nat → Nat) (w : World) (h1 : 1 ≤ W) (h2 : W ≤ 17) (h3 : 1 ≤ H) (h4 : H ≤ 17) (hN : W * H = N) (hl : xs.length = N) (hf : xs.all finW = true) (hA : Rd w w.heap.size 1 A N (xs.map fv)) (h0 : sm 0 = 0)
    (hs : ∀ k, k < N → floatBits .add .f32 (sm k) (xs.getD k 0) = some (sm (k + 1))) (hfin : Fl .f32 (sm N)) :
    Calls Try.prog 13 #[sheetV (W : Int) (H : Int) A N c] w fun e w' => e = .returned (.tuple #[.float .f32 (sm N), .bool true]) ∧ Below w.heap.size w w' := by
  have hN289 : N ≤ 289 := by have := Nat.mul_le_mul h2 h4; omega
  obtain ⟨v, ev⟩ : ∃ v, v = w.alloc (.cells #[.int .i64 (W : Int), .int .i64 (H : Int), .slice A N c] 26) := ⟨_, rfl⟩
  have K0 : Hid (Blk v w.heap.size 26 #[.int .i64 (W : Int), .int .i64 (H : Int), .slice A N c]) := by rw [ev]; exact Blk.new w _ _
  have V0 : Hid (Below w.heap.size w v) := by rw [ev]; exact (Below.refl _ _).alloc (Nat.le_refl _) _
  have A0 : Rd v v.heap.size 1 A N (xs.map fv) := (hA.below V0.out).more V0.out.size
  have IS := ValidSheet_any (W : Int) (H : Int) A N c xs v (by unfold maxLen; omega) A0
  rw [okSheet_len h1 h2 h3 h4 (by rw [hN]; exact hl), hf] at IS
  have IS0 : Hid (Calls Try.prog 24 #[.agg #[.int .i64 (W : Int), .int .i64 (H : Int), .slice A N c]] v fun e w' => e = .returned (.bool true) ∧ Below v.heap.size v w') := IS
  have EV := Lib.hid ev
  have b0 : v.cell? ⟨w.heap.size, 0, none⟩ = some (.int .i64 (W : Int)) := K0.out.cell 0
  have b1 : v.cell? ⟨w.heap.size, 1, none⟩ = some (.int .i64 (H : Int)) := K0.out.cell 1
  have b2 : v.cell? ⟨w.heap.size, 2, none⟩ = some (.slice A N c) := K0.out.cell 2
  have hgl : w.heap.size < v.heap.size := K0.out.lt
  have AV := Lib.hid A0
  have SO := Lib.hid (fun (w' : World) (h : Rd w' w'.heap.size 1 A N (xs.map fv)) => sumOf_calls A N c _ xs sm w' (by unfold maxLen; omega) hl h h0 hs)
  have NO := Lib.hid (fun w => ifNumber_num hfin w)
  rw [ev] at b0 b1 b2
  unfold sheetV
  clear ev IS A0 hA hs hf hl h0 hfin
  go_enter Try.func13, Try.ntmps13
  go_wp2_with fail
  rw [← EV.out]
  refine IS0.out.mono ?_
  rintro e w1 ⟨rfl, hb1⟩
  have d2 : w1.cell? ⟨w.heap.size, 2, none⟩ = some (.slice A N c) := (hb1.cell hgl).trans (K0.out.cell 2)
  have A1 := Lib.hid ((AV.out.below hb1).more hb1.size)
  have V1 := Lib.hid (V0.out.trans (hb1.mono V0.out.size))
  clear hb1 IS0 V0 AV EV b0 b1 b2 K0
  go_wp2_with fail
  refine (SO.out _ A1.out).mono ?_
  rintro e w2 ⟨rfl, hw⟩
  obtain rfl := hw.symm
  go_wp2_with fail
  refine (NO.out _).mono ?_
  rintro e w2 ⟨rfl, hw⟩
  obtain rfl := hw.symm
  go_wp2
  go_ret2
  exact ⟨rfl, V1.out⟩
theorem signbit_w (x : Nat) : ∃ b : Bool, ∀ w : World, Calls Try.prog 57 #[.float .f64 x] w fun e w' => e = .returned (.bool b) ∧ w' = w := by
  refine ⟨decide (wrap64 (x : Int) < 0), fun w => ?_⟩
  have h1 := rBits64 x
  go_enter Try.func57, Try.ntmps57
  go_wp2
  go_ret
  exact ⟨rfl, rfl⟩
theorem sameNumber_self {x : Nat} (hx : Fl .f32 x) (w : World) : Calls Try.prog 43 #[.float .f32 x, .float .f32 x] w fun e w' => e = .returned (.bool true) ∧ w' = w := by
  obtain ⟨y, y1, y2, y3, y4⟩ := fwide hx
  obtain ⟨b, hb⟩ := signbit_w y
  have e1 : (FloatKind.f32.format.order x x != some .eq) = false := by rw [cmp_eq' hx hx rfl]; decide
  have e2 : (FloatKind.f32.format.order x x == some .eq) = true := by rw [cmp_eq' hx hx rfl]; decide
  have k1 := rWide y1
  have HB := Lib.hid hb
  clear y1 y2 y3 y4 hb hx
  go_enter Try.func43, Try.ntmps43
  go_wp2_with fail
  refine (HB.out _).mono ?_
  rintro e w1 ⟨rfl, hw⟩
  obtain rfl := hw.symm
  go_wp2_with fail
  refine (HB.out _).mono ?_
  rintro e w1 ⟨rfl, hw⟩
  obtain rfl := hw.symm
  go_wp2
  go_ret
  exact ⟨ret_b (by cases b <;> rfl), rfl⟩
theorem equalFunc_same (A A' : Option Addr) (n c c' B : Nat) (xs : List Nat) (w : World) (hn : n ≤ maxLen) (hl : xs.length = n) (hf : ∀ k, k < n → Fl .f32 (xs.getD k 0)) (hA : Rd w B 1 A n (xs.map fv)) (hA' : Rd w B 1 A' n (xs.map fv)) :
    Calls Try.prog 42 #[.slice A n c, .slice A' n c', .func (.func 43) #[] #[]] w fun e w' => e = .returned (.bool true) ∧ w' = w := by
  have HF := Lib.hid hf
  have HL := Lib.hid hl
  have HA := Lib.hid hA
  have HA' := Lib.hid hA'
  unfold maxLen at hn
  clear hf hl hA hA'
  go_enter Try.func42, Try.ntmps42
  go_wp2
  go_loopw [17] (fun si wr => ∃ k : Nat, k ≤ n ∧ si = .int .i64 (k : Int) ∧ Hid (wr = w)) (fun si _ => n - (intOf si).toNat)
  case atStart => exact ⟨0, Nat.zero_le _, rfl, rfl⟩
  case round =>
    obtain ⟨k, hk, rfl, HW⟩ := hrel
    obtain rfl := HW.out
    by_cases hlt : k < n
    · obtain ⟨b, off, rfl, hbb, hc⟩ := HA.out.2 (by omega)
      obtain ⟨b', off', rfl, hbb', hc'⟩ := HA'.out.2 (by omega)
      have e0 : wr.cell? ⟨b, off + k, none⟩ = some (.float .f32 (xs.getD k 0)) := hc _ _ (fv_at HL.out hlt)
      have e1 : wr.cell? ⟨b', off' + k, none⟩ = some (.float .f32 (xs.getD k 0)) := hc' _ _ (fv_at HL.out hlt)
      have hki : (k : Int) < (n : Int) := by omega
      have hk0 : (0 : Int) ≤ (k : Int) := by omega
      have SN := Lib.hid (sameNumber_self (HF.out k hlt) wr)
      clear hc hc'
      generalize xs.getD k 0 = x at e0 e1 SN
      go_wp2_with fail
      refine SN.out.mono ?_
      rintro e w1 ⟨rfl, hw⟩
      obtain rfl := hw.symm
      go_wp2
      go_roundw
      case rel => exact ⟨k + 1, by omega, by go_num, Lib.hid trivial⟩
      case measure => simp [intOf]; omega
    · go_wp2
      go_ret
      exact ⟨rfl, rfl⟩
theorem SameSheet_same (W H : Int) (A A' : Option Addr) (n c c' B : Nat) (xs : List Nat) (w : World) (hn : n ≤ maxLen) (hl : xs.length = n) (hB : B ≤ w.heap.size) (hf : ∀ k, k < n → Fl .f32 (xs.getD k 0)) (hA : Rd w B 1 A n (xs.map fv)) (hA' : Rd w B 1 A' n (xs.map fv)) :
    Calls Try.prog 14 #[sheetV W H A n c, sheetV W H A' n c'] w fun e w' => e = .returned (.bool true) ∧ Below w.heap.size w w' := by
  have hb0 : ∀ o o', Below w.heap.size w ((w.alloc o).alloc o') := fun o o' => ((Below.refl _ _).alloc (Nat.le_refl _) _).alloc (by simp) _
  have H0 := Lib.hid hb0
  clear hb0
  unfold sheetV
  go_enter Try.func14, Try.ntmps14
  go_wp2_with fail
  refine (equalFunc_same A A' n c c' B xs _ hn hl hf (hA.below ((H0.out _ _).mono hB)) (hA'.below ((H0.out _ _).mono hB))).mono ?_
  rintro e w1 ⟨rfl, rfl⟩
  go_wp2
  go_ret
  exact ⟨rfl, H0.out _ _⟩
/-- A sheet that is valid is given. -/
theorem ifSheet_ok (W H N : Nat) (A : Option Addr) (c : Nat) (xs : List Nat) (w : World) (h1 : 1 ≤ W) (h2 : W ≤ 17) (h3 : 1 ≤ H) (h4 : H ≤ 17) (hN : W * H = N) (hl : xs.length = N) (hf : xs.all finW = true) (hA : Rd w w.heap.size 1 A N (xs.map fv)) :
    Calls Try.prog 22 #[sheetV (W : Int) (H : Int) A N c] w fun e w' => e = .returned (.tuple #[sheetV (W : Int) (H : Int) A N c, .bool true]) ∧ Below w.heap.size w w' := by
  have hN289 : N ≤ 289 := by have := Nat.mul_le_mul h2 h4; omega
  obtain ⟨v, ev⟩ : ∃ v, v = (w.alloc (.cells #[.int .i64 (W : Int), .int .i64 (H : Int), .slice A N c] 26)).alloc (.cells #[.int .i64 0, .int .i64 0, .slice none 0 0] 26) := ⟨_, rfl⟩
  have K0 : Hid (Blk v w.heap.size 26 #[.int .i64 (W : Int), .int .i64 (H : Int), .slice A N c]) := by rw [ev]; exact (Blk.new w _ _).alloc _
  have R0 : Hid (Blk v (w.heap.size + 1) 26 #[.int .i64 0, .int .i64 0, .slice none 0 0]) := by rw [ev]; exact Blk.new2 _ _ _ _
  have V0 : Hid (Below w.heap.size w v) := by rw [ev]; exact ((Below.refl _ _).alloc (Nat.le_refl _) _).alloc (by simp) _
  have A0 : Rd v v.heap.size 1 A N (xs.map fv) := (hA.below V0.out).more V0.out.size
  have IS := ValidSheet_any (W : Int) (H : Int) A N c xs v (by unfold maxLen; omega) A0
  rw [okSheet_len h1 h2 h3 h4 (by rw [hN]; exact hl), hf] at IS
  have IS0 : Hid (Calls Try.prog 24 #[.agg #[.int .i64 (W : Int), .int .i64 (H : Int), .slice A N c]] v fun e w' => e = .returned (.bool true) ∧ Below v.heap.size v w') := IS
  have EV := Lib.hid ev
  have b0 : v.cell? ⟨w.heap.size, 0, none⟩ = some (.int .i64 (W : Int)) := K0.out.cell 0
  have b1 : v.cell? ⟨w.heap.size, 1, none⟩ = some (.int .i64 (H : Int)) := K0.out.cell 1
  have b2 : v.cell? ⟨w.heap.size, 2, none⟩ = some (.slice A N c) := K0.out.cell 2
  have hg1 : ¬ w.heap.size = w.heap.size + 1 := by omega
  have AV := Lib.hid A0
  rw [ev] at b0 b1 b2
  unfold sheetV
  clear ev IS A0 hA hf hl
  go_enter Try.func22, Try.ntmps22
  go_wp2_with fail
  rw [← EV.out]
  refine IS0.out.mono ?_
  rintro e w1 ⟨rfl, hb1⟩
  have K1 := Lib.hid (K0.out.below hb1 K0.out.lt)
  have R1 := Lib.hid (R0.out.below hb1 R0.out.lt)
  have V1 := Lib.hid (V0.out.trans (hb1.mono V0.out.size))
  clear hb1 IS0 V0 AV EV b0 b1 b2 K0 R0
  go_wp2_with (first
    | (refine wpList_load_blk rfl _ _ rfl w.heap.size 0 rfl 26 _ K1.out [.int .i64 (W : Int), .int .i64 (H : Int), .slice A N c] rfl _ Try.underlying26 rfl (by kernel_rfl) ?_)
    | (refine wpList_store_blk rfl _ _ _ rfl (w.heap.size + 1) 0 rfl _ rfl [.int .i64 (W : Int), .int .i64 (H : Int), .slice A N c] rfl 26 _ #[.int .i64 (W : Int), .int .i64 (H : Int), .slice A N c] R1.out (by kernel_rfl) (by simp) (by simp [Value.oneCell']) rfl ?_; intro w9 k9 g9)
    | fail)
  refine bodyPost_ret (results_row2 rfl _ w9 (w.heap.size + 1) 26 _ _ rfl k9 Try.underlying26 rfl (by kernel_rfl) _ rfl) rfl ?_
  exact ⟨rfl, V1.out.grown g9 V1.out.size (fun j e => by injection e with e; omega)⟩
/-- A new sheet that is valid, and true. -/
def SheetTrue (W H : Nat) (C : List Nat) (w : World) (e : Ending) (w' : World) : Prop :=
  ∃ g c, e = .returned (.tuple #[sheetV (W : Int) (H : Int) (some ⟨g, 0, none⟩) C.length c, .bool true]) ∧ w'.ownsRow w.heap.size 30 1 (.slice (some ⟨g, 0, none⟩) C.length c) C.length (C.map fv) ∧ Below w.heap.size w w'
theorem FlatSheet_ok (W H N h : Nat) (w : World) (h1 : 1 ≤ W) (h2 : W ≤ 17) (h3 : 1 ≤ H) (h4 : H ≤ 17) (hN : W * H = N) (hf : Fl .f32 h) :
    Calls Try.prog 6 #[.int .i64 (W : Int), .int .i64 (H : Int), .float .f32 h] w (SheetTrue W H (List.replicate N h) w) := by
  have hN289 : N ≤ 289 := by have := Nat.mul_le_mul h2 h4; omega
  have hN1 : 1 ≤ N := by have := Nat.mul_le_mul h1 h3; omega
  have hmul : (W : Int) * (H : Int) = (N : Int) := by rw [← hN]; simp
  obtain ⟨v, ev⟩ : ∃ v, v = (w.alloc (.cells #[.int .i64 0, .int .i64 0, .slice none 0 0] 26)).alloc (.cells #[.float .f32 h] 30) := ⟨_, rfl⟩
  have R0 : Hid (Blk v w.heap.size 26 #[.int .i64 0, .int .i64 0, .slice none 0 0]) := by rw [ev]; exact (Blk.new w _ _).alloc _
  have V0 : Hid (Below w.heap.size w v) := by rw [ev]; exact ((Below.refl _ _).alloc (Nat.le_refl _) _).alloc (by simp) _
  have x0 : v.cell? ⟨w.heap.size + 1, 0, none⟩ = some (.float .f32 h) := by rw [ev]; exact (Blk.new2 w _ _ _).cell 0
  have SW : Hid (∀ w, Calls Try.prog 21 #[.int .i64 (W : Int)] w fun e w' => e = .returned (.bool true) ∧ w' = w) := fun w => by
    have := isSheetSide_any (W : Int) w
    rwa [inB_iff.2 ⟨by omega, by omega⟩] at this
  have SH : Hid (∀ w, Calls Try.prog 21 #[.int .i64 (H : Int)] w fun e w' => e = .returned (.bool true) ∧ w' = w) := fun w => by
    have := isSheetSide_any (H : Int) w
    rwa [inB_iff.2 ⟨by omega, by omega⟩] at this
  have RP := Lib.hid (repeatF_one (w.heap.size + 1) 0 1 N (.float .f32 h) v (by omega) x0 rfl)
  have hfin : (List.replicate N h).all finW = true := by
    rw [List.all_eq_true]
    intro x hx
    rw [List.eq_of_mem_replicate hx]
    exact fin_fl hf
  have HN := Lib.hid hN
  have HF := Lib.hid hfin
  have EV := Lib.hid ev
  clear ev x0 hf hfin hN
  go_enter Try.func6, Try.ntmps6
  go_wp2_with fail
  refine (SW.out _).mono ?_
  rintro e w1 ⟨rfl, rfl⟩
  go_wp2_with fail
  refine (SH.out _).mono ?_
  rintro e w2 ⟨rfl, rfl⟩
  go_wp2_with fail
  rw [← EV.out]
  refine RP.out.mono ?_
  rintro e w3 ⟨A3, rfl, ho, hb⟩
  obtain ⟨gr, cap, hv, _, hgr⟩ := ho.form (by omega)
  obtain ⟨rfl, rfl⟩ : A3 = some ⟨gr, 0, none⟩ ∧ cap = N := by injection hv with q1 _ q3; exact ⟨q1, q3.symm⟩
  have R3 := Lib.hid (R0.out.below hb R0.out.lt)
  have V3 := Lib.hid (V0.out.trans (hb.mono V0.out.size))
  have IS := ifSheet_ok W H cap (some ⟨gr, 0, none⟩) cap (List.replicate cap h) w3 h1 h2 h3 h4 HN.out (by simp) HF.out (by
    have := Rd.own ho
    rw [List.map_replicate]
    exact this)
  have O3 := Lib.hid ho
  have IS3 := Lib.hid IS
  have hz := V0.out.size
  unfold sheetV at IS3
  clear ho hb hv IS RP R0 V0 EV HF SW SH
  go_wp2_with fail
  refine IS3.out.mono ?_
  rintro e w4 ⟨rfl, hb4⟩
  have R4 := Lib.hid (R3.out.below hb4 R3.out.lt)
  have V4 := Lib.hid (V3.out.trans (hb4.mono V3.out.size))
  have O4 := Lib.hid (own_below O3.out hb4)
  clear hb4 IS3 R3 V3 O3
  go_wp2_with (first
    | (refine wpList_store_blk rfl _ _ _ rfl w.heap.size 0 rfl _ rfl [.int .i64 (W : Int), .int .i64 (H : Int), .slice (some ⟨gr, 0, none⟩) cap cap] rfl 26 _ #[.int .i64 (W : Int), .int .i64 (H : Int), .slice (some ⟨gr, 0, none⟩) cap cap] R4.out (by kernel_rfl) (by simp) (by simp [Value.oneCell']) rfl ?_; intro w9 k9 g9)
    | fail)
  refine bodyPost_ret (results_row2 rfl _ w9 w.heap.size 26 _ _ rfl k9 Try.underlying26 rfl (by kernel_rfl) _ rfl) rfl ?_
  refine ⟨gr, cap, ?_, ?_, V4.out.grown g9 V4.out.size (fun j e => by injection e with e; omega)⟩
  · rw [List.length_replicate]
    rfl
  · rw [List.length_replicate, List.map_replicate]
    exact own_base (own_grown' O4.out g9 (own_blk_ne O4.out R4.out (by decide))) hz
end Go.Proofs.Ytoibgpmpngccjaa

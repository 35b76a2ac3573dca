/- Walks: the least and the greatest height of a sheet. Conditions: at least one height, all finite. -/
import Derived.Test.YtoibgpmpngccjaaSle
import Derived.Test.YtoibgpmpngccjaaIs
import Derived.Test.YtoibgpmpngccjaaApp
import Derived.Deep.RegionLaw
import Derived.Deep.AppendLies
namespace Go.Proofs.Ytoibgpmpngccjaa
open Go.RowKit
open Num Quick
attribute [local go_sem] run_store_fl

/-- The least and the greatest of the first numbers, the first ones of equal ones. -/
def loF (xs : List Nat) : Nat → Nat
  | 0 => xs.getD 0 0
  | k + 1 => if FloatKind.f32.format.order (xs.getD k 0) (loF xs k) == some .lt then xs.getD k 0 else loF xs k
def hiF (xs : List Nat) : Nat → Nat
  | 0 => xs.getD 0 0
  | k + 1 => if FloatKind.f32.format.order (xs.getD k 0) (hiF xs k) == some .gt then xs.getD k 0 else hiF xs k
theorem loF_ok {xs : List Nat} {n : Nat} (hf : ∀ k, k < n → Fl .f32 (xs.getD k 0)) (h1 : 1 ≤ n) : ∀ k, k ≤ n → (∃ j, j < n ∧ loF xs k = xs.getD j 0) ∧ ∀ j, j < k → Num.fv .f32 (loF xs k) ≤ Num.fv .f32 (xs.getD j 0)
  | 0, _ => ⟨⟨0, by omega, rfl⟩, fun j hj => absurd hj (by omega)⟩
  | k + 1, hk => by
    obtain ⟨⟨i, hi, ei⟩, hle⟩ := loF_ok hf h1 k (by omega)
    have fk := hf k (by omega)
    have fi : Fl .f32 (loF xs k) := by rw [ei]; exact hf i hi
    unfold loF
    by_cases e : Num.fv .f32 (xs.getD k 0) < Num.fv .f32 (loF xs k)
    · rw [(lt_cmp fk fi e).1]
      refine ⟨⟨k, by omega, rfl⟩, fun j hj => ?_⟩
      simp only [if_true]
      rcases Nat.lt_succ_iff_lt_or_eq.1 hj with hj | rfl
      · exact Rat.le_trans (Rat.le_of_lt e) (hle j hj)
      · exact Rat.le_refl
    · have c' : Num.fv .f32 (loF xs k) ≤ Num.fv .f32 (xs.getD k 0) := Rat.not_lt.1 e
      rw [not_lt_cmp fk fi c']
      refine ⟨⟨i, hi, ei⟩, fun j hj => ?_⟩
      rcases Nat.lt_succ_iff_lt_or_eq.1 hj with hj | rfl
      · exact hle j hj
      · exact c'
theorem gt_cmp {x y : Nat} (hx : Fl .f32 x) (hy : Fl .f32 y) (h : Num.fv .f32 y < Num.fv .f32 x) : (FloatKind.f32.format.order x y == some .gt) = true := by rw [cmp_gt' hx hy h]; decide
theorem not_gt_cmp {x y : Nat} (hx : Fl .f32 x) (hy : Fl .f32 y) (h : Num.fv .f32 x ≤ Num.fv .f32 y) : (FloatKind.f32.format.order x y == some .gt) = false := (le_cmp hx hy h).2
theorem hiF_ok {xs : List Nat} {n : Nat} (hf : ∀ k, k < n → Fl .f32 (xs.getD k 0)) (h1 : 1 ≤ n) : ∀ k, k ≤ n → (∃ j, j < n ∧ hiF xs k = xs.getD j 0) ∧ ∀ j, j < k → Num.fv .f32 (xs.getD j 0) ≤ Num.fv .f32 (hiF xs k)
  | 0, _ => ⟨⟨0, by omega, rfl⟩, fun j hj => absurd hj (by omega)⟩
  | k + 1, hk => by
    obtain ⟨⟨i, hi, ei⟩, hle⟩ := hiF_ok hf h1 k (by omega)
    have fk := hf k (by omega)
    have fi : Fl .f32 (hiF xs k) := by rw [ei]; exact hf i hi
    unfold hiF
    by_cases e : Num.fv .f32 (hiF xs k) < Num.fv .f32 (xs.getD k 0)
    · rw [gt_cmp fk fi e]
      refine ⟨⟨k, by omega, rfl⟩, fun j hj => ?_⟩
      simp only [if_true]
      rcases Nat.lt_succ_iff_lt_or_eq.1 hj with hj | rfl
      · exact Rat.le_trans (hle j hj) (Rat.le_of_lt e)
      · exact Rat.le_refl
    · have c' : Num.fv .f32 (xs.getD k 0) ≤ Num.fv .f32 (hiF xs k) := Rat.not_lt.1 e
      rw [not_gt_cmp fk fi c']
      refine ⟨⟨i, hi, ei⟩, fun j hj => ?_⟩
      rcases Nat.lt_succ_iff_lt_or_eq.1 hj with hj | rfl
      · exact hle j hj
      · exact c'
set_option maxRecDepth 100000 in
set_option maxHeartbeats 1000000 in
theorem span_calls (A : Option Addr) (n c B : Nat) (xs : List Nat) (w : World) (hn : n ≤ maxLen) (h1 : 1 ≤ n) (hl : xs.length = n) (hA : Rd w B 1 A n (xs.map fv)) :
    Calls Try.prog 44 #[.slice A n c] w fun e w' => e = .returned (.tuple #[.float .f32 (loF xs n), .float .f32 (hiF xs n)]) ∧ ∃ m, w' = w.drewN m := by
  obtain ⟨b, off, rfl, hbb, hc⟩ := hA.2 (by omega)
  have a0 : w.cell? ⟨b, off, none⟩ = some (.float .f32 (loF xs 0)) := hc 0 _ (fv_at hl (by omega))
  have a1 : w.cell? ⟨b, off, none⟩ = some (.float .f32 (hiF xs 0)) := hc 0 _ (fv_at hl (by omega))
  have HL := Lib.hid hl
  have HC := Lib.hid hc
  have h0n : (0 : Int) < (n : Int) := by omega
  have HE : Hid (loF xs 0 = hiF xs 0) := rfl
  unfold maxLen at hn
  clear hA hl hc a1
  go_enter Try.func44, Try.ntmps44
  go_wp2
  go_quiet (fail)
  obtain ⟨m0, em0⟩ : ∃ m0, loF xs 0 = m0 := ⟨_, rfl⟩
  rw [em0]
  have EM := Lib.hid em0
  clear a0 em0
  go_wp2
  go_loopw [4, 5, 16] (fun sl sh si wr => ∃ k : Nat, k ≤ n ∧ si = .int .i64 (k : Int) ∧ sl = .float .f32 (loF xs k) ∧ sh = .float .f32 (hiF xs k) ∧ Hid (∃ m, wr = w.drewN m)) (fun _ _ si _ => n - (intOf si).toNat)
  case atStart => exact ⟨0, Nat.zero_le _, rfl, by rw [EM.out], by rw [← HE.out, EM.out], _, rfl⟩
  case round =>
    obtain ⟨k, hk, rfl, rfl, rfl, HW⟩ := hrel
    by_cases hlt : k < n
    · have e0 : wr.cell? ⟨b, off + k, none⟩ = some (.float .f32 (xs.getD k 0)) := by
        obtain ⟨m, rfl⟩ := HW.out
        exact HC.out k _ (fv_at HL.out hlt)
      have hki : (k : Int) < (n : Int) := by omega
      have el : loF xs (k + 1) = if FloatKind.f32.format.order (xs.getD k 0) (loF xs k) == some .lt then xs.getD k 0 else loF xs k := rfl
      have eh : hiF xs (k + 1) = if FloatKind.f32.format.order (xs.getD k 0) (hiF xs k) == some .gt then xs.getD k 0 else hiF xs k := rfl
      obtain ⟨l2, el2⟩ : ∃ l2, loF xs (k + 1) = l2 := ⟨_, rfl⟩
      obtain ⟨h2, eh2⟩ : ∃ h2, hiF xs (k + 1) = h2 := ⟨_, rfl⟩
      rw [el2] at el
      rw [eh2] at eh
      have EL2 := Lib.hid el2
      have EH2 := Lib.hid eh2
      generalize xs.getD k 0 = x at e0 el eh
      generalize loF xs k = lo at *
      generalize hiF xs k = hi at *
      obtain ⟨p, ep⟩ : ∃ p, (FloatKind.f32.format.order x lo == some Ordering.lt) = p := ⟨_, rfl⟩
      obtain ⟨q, eq⟩ : ∃ q, (FloatKind.f32.format.order x hi == some Ordering.gt) = q := ⟨_, rfl⟩
      rw [ep] at el
      rw [eq] at eh
      have EL := Lib.hid el
      have EH := Lib.hid eh
      clear el eh el2 eh2
      cases p <;> cases q <;>
      · go_wp2
        go_roundw
        case rel => exact ⟨k + 1, by omega, by go_num, by rw [EL2.out, EL.out]; rfl, by rw [EH2.out, EH.out]; rfl, HW⟩
        case measure => simp [intOf]; omega
    · obtain rfl : k = n := by omega
      go_wp2
      go_ret2
      exact ⟨rfl, HW.out⟩
theorem RangeOf_calls (W H N : Nat) (A : Option Addr) (c : Nat) (xs : List Nat) (w : World) (h1 : 1 ≤ W) (h2 : W ≤ 17) (h3 : 1 ≤ H) (h4 : H ≤ 17) (hN : W * H = N) (hl : xs.length = N) (hf : xs.all finW = true) (hA : Rd w w.heap.size 1 A N (xs.map fv)) :
    Calls Try.prog 16 #[sheetV (W : Int) (H : Int) A N c] w fun e w' => e = .returned (.tuple #[.float .f32 (loF xs N), .float .f32 (hiF xs N), .bool true]) ∧ Below w.heap.size w w' := by
  have hN289 : N ≤ 289 := by have := Nat.mul_le_mul h2 h4; omega
  have hN1 : 1 ≤ N := by have := Nat.mul_le_mul h1 h3; omega
  obtain ⟨v, ev⟩ : ∃ v, v = w.alloc (.cells #[.int .i64 (W : Int), .int .i64 (H : Int), .slice A N c] 26) := ⟨_, rfl⟩
  have K0 : Hid (Blk v w.heap.size 26 #[.int .i64 (W : Int), .int .i64 (H : Int), .slice A N c]) := by rw [ev]; exact Blk.new w _ _
  have V0 : Hid (Below w.heap.size w v) := by rw [ev]; exact (Below.refl _ _).alloc (Nat.le_refl _) _
  have A0 : Rd v v.heap.size 1 A N (xs.map fv) := (hA.below V0.out).more V0.out.size
  have IS := ValidSheet_any (W : Int) (H : Int) A N c xs v (by unfold maxLen; omega) A0
  rw [okSheet_len h1 h2 h3 h4 (by rw [hN]; exact hl), hf] at IS
  have IS0 : Hid (Calls Try.prog 24 #[.agg #[.int .i64 (W : Int), .int .i64 (H : Int), .slice A N c]] v fun e w' => e = .returned (.bool true) ∧ Below v.heap.size v w') := IS
  have EV := Lib.hid ev
  have b0 : v.cell? ⟨w.heap.size, 0, none⟩ = some (.int .i64 (W : Int)) := K0.out.cell 0
  have b1 : v.cell? ⟨w.heap.size, 1, none⟩ = some (.int .i64 (H : Int)) := K0.out.cell 1
  have b2 : v.cell? ⟨w.heap.size, 2, none⟩ = some (.slice A N c) := K0.out.cell 2
  have hgl : w.heap.size < v.heap.size := K0.out.lt
  have AV := Lib.hid A0
  have SO := Lib.hid (fun (w' : World) (h : Rd w' w'.heap.size 1 A N (xs.map fv)) => span_calls A N c _ xs w' (by unfold maxLen; omega) hN1 hl h)
  rw [ev] at b0 b1 b2
  unfold sheetV
  clear ev IS A0 hA hf hl
  go_enter Try.func16, Try.ntmps16
  go_wp2_with fail
  rw [← EV.out]
  refine IS0.out.mono ?_
  rintro e w1 ⟨rfl, hb1⟩
  have d2 : w1.cell? ⟨w.heap.size, 2, none⟩ = some (.slice A N c) := (hb1.cell hgl).trans (K0.out.cell 2)
  have A1 := Lib.hid ((AV.out.below hb1).more hb1.size)
  have V1 := Lib.hid (V0.out.trans (hb1.mono V0.out.size))
  clear hb1 IS0 V0 AV EV b0 b1 b2 K0
  go_wp2_with fail
  refine (SO.out _ A1.out).mono ?_
  rintro e w2 ⟨rfl, m, hw⟩
  have V2 := Lib.hid (below_drewN' V1.out m)
  rw [← hw] at V2
  clear hw
  go_wp2
  go_ret3
  exact ⟨rfl, V2.out⟩
set_option maxRecDepth 100000 in
set_option maxHeartbeats 4000000 in
theorem changed_ok (W H N : Nat) (A : Option Addr) (c : Nat) (f : FuncId) (caps : Array Value) (xs ys : List Nat) (w : World) (h1 : 1 ≤ W) (h2 : W ≤ 17) (h3 : 1 ≤ H) (h4 : H ≤ 17) (hN : W * H = N) (hl : xs.length = N) (hly : ys.length = N) (hf : ys.all finW = true)
    (hcf : ∀ (args : Array Value) (w : World), (callFunc f args).run Try.prog w = .ok (.enter f args) w) (hfc : ∀ i, i < N → ∀ w', Below w.heap.size w w' → Calls Try.prog f (#[.int .i64 (i : Int)] ++ caps) w' fun e w'' => e = .returned (.float .f32 (ys.getD i 0)) ∧ ∃ m, w'' = w'.drewN m) :
    Calls Try.prog 45 #[sheetV (W : Int) (H : Int) A N c, .func (.func f) #[] caps] w (SheetTrue W H ys w) := by
  have hN289 : N ≤ 289 := by have := Nat.mul_le_mul h2 h4; omega
  obtain ⟨i0, hi0, hz0, hz1, hz2⟩ := info_parts fltInfo
  obtain ⟨g, eg⟩ : ∃ g, w.heap.size = g := ⟨_, rfl⟩
  obtain ⟨v1, ev1⟩ : ∃ v1, v1 = (w.alloc (.cells #[.int .i64 (W : Int), .int .i64 (H : Int), .slice A N c] 26)).alloc (.cells #[.int .i64 0, .int .i64 0, .slice none 0 0] 26) := ⟨_, rfl⟩
  obtain ⟨v, ev⟩ : ∃ v, v = v1.alloc (.cells #[.int .i64 (W : Int), .int .i64 (H : Int), .slice none 0 0] 26) := ⟨_, rfl⟩
  have zv1 : v1.heap.size = g + 2 := by rw [ev1, ← eg]; simp
  have K00 : Blk v1 g 26 #[.int .i64 (W : Int), .int .i64 (H : Int), .slice A N c] := by rw [ev1, ← eg]; exact (Blk.new w _ _).alloc _
  have R00 : Blk v1 (g + 1) 26 #[.int .i64 0, .int .i64 0, .slice none 0 0] := by rw [ev1, ← eg]; exact Blk.new2 _ _ _ _
  have V00 : Below g w v1 := by rw [ev1, ← eg]; exact ((Below.refl _ _).alloc (Nat.le_refl _) _).alloc (by simp) _
  have R0 : Hid (Blk v (g + 1) 26 #[.int .i64 0, .int .i64 0, .slice none 0 0]) := by rw [ev]; exact R00.alloc _
  have F0 : Hid (Blk v (g + 1 + 1) 26 #[.int .i64 (W : Int), .int .i64 (H : Int), .slice none 0 0]) := by rw [ev, ← zv1]; exact Blk.new _ _ _
  have V0 : Hid (Below g w v) := by rw [ev]; exact V00.alloc (by omega) _
  have b0 : v1.cell? ⟨g, 0, none⟩ = some (.int .i64 (W : Int)) := K00.cell 0
  have b1 : v1.cell? ⟨g, 1, none⟩ = some (.int .i64 (H : Int)) := K00.cell 1
  have b2 : v.cell? ⟨g, 2, none⟩ = some (.slice A N c) := by rw [ev]; exact (K00.alloc _).cell 2
  have FC := Lib.hid hfc
  have EV := Lib.hid ev
  have HLY := Lib.hid hly
  have HF := Lib.hid hf
  have HN := Lib.hid hN
  rw [ev1, ← eg] at b0 b1
  rw [ev, ev1, ← eg] at b2
  have EV1 := Lib.hid ev1
  have EG := Lib.hid eg
  unfold sheetV
  clear ev ev1 K00 R00 V00 hfc hl hly hf zv1
  go_enter Try.func45, Try.ntmps45
  go_wp2
  go_simp
  rw [← EV1.out, ← EV.out]
  have hcap : maxLen = maxLen := rfl
  obtain rfl := EG.out
  clear EV1 EV b0 b1 b2 EG hcap eg
  go_loopw [16] (fun si wr => ∃ (k : Nat) (Ac : Option Addr) (cc : Nat), si = .int .i64 (k : Int) ∧ k ≤ N ∧ Hid (Blk wr (w.heap.size + 1 + 1) 26 #[.int .i64 (W : Int), .int .i64 (H : Int), .slice Ac k cc]) ∧
    Hid (Blk wr (w.heap.size + 1) 26 #[.int .i64 0, .int .i64 0, .slice none 0 0]) ∧ Hid (wr.ownsRow w.heap.size 30 1 (.slice Ac k cc) k ((ys.take k).map fv)) ∧ Hid (Below w.heap.size w wr)) (fun si _ => N - (intOf si).toNat)
  case atStart => exact ⟨0, none, 0, rfl, Nat.zero_le _, F0, R0, World.ownsRow_nil _ _ _ _, V0⟩
  case round =>
    clear F0 R0 V0
    obtain ⟨k, Ac, cc, rfl, hk, F, R, O, G⟩ := hrel
    by_cases hlt : k < N
    · have PX := Lib.hid (FC.out k hlt wr.drew (below_drewN' G.out 1))
      have d2 : wr.cell? ⟨w.heap.size + 1 + 1, 2, none⟩ = some (.slice Ac k cc) := F.out.cell 2
      have d2' : wr.drew.cell? ⟨w.heap.size + 1 + 1, 2, none⟩ = some (.slice Ac k cc) := F.out.cell 2
      have hgr := F.out.lt
      have hki : (k : Int) < (N : Int) := by omega
      obtain ⟨y, ey⟩ : ∃ y, ys.getD k 0 = y := ⟨_, rfl⟩
      rw [ey] at PX
      have EY := Lib.hid ey
      clear ey
      go_wp2
      go_region_law (first
        | (go_simp
           with_reducible refine Calls.mono PX.out ?_
           rintro e w7 ⟨rfl, m7, hw7⟩
           simp only
           have F7 : Hid (Blk w7 (w.heap.size + 1 + 1) 26 #[.int .i64 (W : Int), .int .i64 (H : Int), .slice Ac k cc]) := by rw [hw7]; exact F.out.drew.drewN _
           have R7 : Hid (Blk w7 (w.heap.size + 1) 26 #[.int .i64 0, .int .i64 0, .slice none 0 0]) := by rw [hw7]; exact R.out.drew.drewN _
           have O7 : Hid (w7.ownsRow w.heap.size 30 1 (.slice Ac k cc) k ((ys.take k).map fv)) := by rw [hw7]; exact O.out
           have G7 : Hid (Below w.heap.size w w7) := by rw [hw7]; exact below_drewN' (below_drewN' G.out 1) _
           have F8 := Lib.hid (F7.out.alloc (.cells #[.float .f32 y] 30))
           have O8 := Lib.hid (O7.out.alloc (.cells #[.float .f32 y] 30))
           have h7 : w7.cell? ⟨w.heap.size + 1 + 1, 2, none⟩ = some (.slice Ac k cc) := F7.out.cell 2
           have h8 : (w7.alloc (.cells #[.float .f32 y] 30)).cell? ⟨w.heap.size + 1 + 1, 2, none⟩ = some (.slice Ac k cc) := F8.out.cell 2
           have C8 : Hid (∀ j u, ([.float .f32 y] : List Value)[j]? = some u → (w7.alloc (.cells #[.float .f32 y] 30)).cell? ((⟨w7.heap.size, 0, none⟩ : Addr).add j) = some u) := World.news_of_block (heap_alloc_new w7 (.cells #[.float .f32 y] 30))
           have hne7 : ¬ w.heap.size + 1 + 1 = w7.heap.size := by have := F7.out.lt; omega
           clear hw7)
        | (refine step_append_lies _ rfl _ _ _ rfl w.heap.size 30 i0 (.float .f32 0) 1 4 Try.underlying24 hi0 hz0 hz1 hz2 rfl (by omega) (.slice Ac k cc) k ((ys.take k).map fv) (by rfl) O8.out ⟨w7.heap.size, 0, none⟩ 1 1 [.float .f32 y] (by rfl) (by simp) C8.out (by simp [Value.oneCell']) (by omega) (by unfold maxLen; omega) (by omega) (by have := G7.out.size; simp; omega) (w7.heap.size + 1) (by simp) ?_
           intro gg cap w9 ho9 hg9 hd9 hlt9
           have F9 := Lib.hid (F8.out.grown hg9 (own_blk_ne O8.out F8.out (by decide)))
           have e9 := F9.out.cell 2
           have f9 := F9.out.frozen 2))
      all_goals
        have gs10 := Lib.hid (grown_set (World.grownBy.refl w9 (some (w.heap.size + 1 + 1))) (p := ⟨w.heap.size + 1 + 1, 2, none⟩) rfl (.slice (some ⟨gg, 0, none⟩) (k + 1) cap))
        have F10 : Hid (Blk (w9.setCell ⟨w.heap.size + 1 + 1, 2, none⟩ (.slice (some ⟨gg, 0, none⟩) (k + 1) cap)) (w.heap.size + 1 + 1) 26 #[.int .i64 (W : Int), .int .i64 (H : Int), .slice (some ⟨gg, 0, none⟩) (k + 1) cap]) := F9.out.set_ 2 _
        have R9 := Lib.hid ((R7.out.alloc (.cells #[.float .f32 y] 30)).grown hg9 (own_blk_ne O8.out (R7.out.alloc _) (by decide)))
        have R10 := Lib.hid (R9.out.grown gs10.out (fun e => by injection e with e; omega))
        have O10 := Lib.hid (own_grown' ho9 gs10.out (own_blk_ne ho9 F9.out (by decide)))
        have G8 := Lib.hid (G7.out.alloc G7.out.size (.cells #[.float .f32 y] 30))
        have G9 := Lib.hid (G8.out.grown hg9 G8.out.size (fun k e => (O8.out.lt k e).1))
        have G10 := Lib.hid (G9.out.grown gs10.out G9.out.size (fun k e => by injection e with e; omega))
        have hmap : (ys.take k).map fv ++ [.float .f32 y] = (ys.take (k + 1)).map fv := by
          have hky : k < ys.length := by rw [HLY.out]; exact hlt
          rw [List.take_add_one, List.map_append, List.getElem?_eq_getElem hky]
          have := EY.out
          rw [List.getD_eq_getElem?_getD, List.getElem?_eq_getElem hky] at this
          rw [← this]
          rfl
        rw [hmap] at O10
        clear ho9 hg9 hd9 e9 f9 F9 R9 G9 gs10 hmap
        generalize w9.setCell ⟨w.heap.size + 1 + 1, 2, none⟩ (.slice (some ⟨gg, 0, none⟩) (k + 1) cap) = w10 at *
        go_wp2
        go_roundw
        case rel => exact ⟨k + 1, some ⟨gg, 0, none⟩, cap, by go_num, by omega, F10, R10, O10, G10⟩
        case measure => simp [intOf]; omega
    · obtain rfl : k = N := by omega
      have htk : ys.take k = ys := List.take_of_length_le (by rw [HLY.out]; exact Nat.le_refl _)
      rw [htk] at O
      have IS := ifSheet_ok W H k Ac cc ys wr h1 h2 h3 h4 HN.out HLY.out HF.out (Rd.own O.out)
      have hN1 : 1 ≤ k := by have := Nat.mul_le_mul h1 h3; have := HN.out; omega
      obtain ⟨gr, cap, hv, _, hgr⟩ := O.out.form (by omega)
      obtain ⟨rfl, rfl⟩ : Ac = some ⟨gr, 0, none⟩ ∧ cc = cap := by injection hv with q1 _ q3; exact ⟨q1, q3⟩
      have IS3 := Lib.hid IS
      unfold sheetV at IS3
      clear hv IS htk
      go_wp2_with (first
        | (refine wpList_load_blk rfl _ _ rfl (w.heap.size + 1 + 1) 0 rfl 26 _ F.out [.int .i64 (W : Int), .int .i64 (H : Int), .slice (some ⟨gr, 0, none⟩) k cc] rfl _ Try.underlying26 rfl (by kernel_rfl) ?_)
        | fail)
      refine IS3.out.mono ?_
      rintro e w4 ⟨rfl, hb4⟩
      have R4 := Lib.hid (R.out.below hb4 R.out.lt)
      have V4 := Lib.hid (G.out.trans (hb4.mono G.out.size))
      have O4 := Lib.hid (own_below O.out hb4)
      clear hb4 IS3 R G O
      go_wp2_with (first
        | (refine wpList_store_blk rfl _ _ _ rfl (w.heap.size + 1) 0 rfl _ rfl [.int .i64 (W : Int), .int .i64 (H : Int), .slice (some ⟨gr, 0, none⟩) k cc] rfl 26 _ #[.int .i64 (W : Int), .int .i64 (H : Int), .slice (some ⟨gr, 0, none⟩) k cc] R4.out (by kernel_rfl) (by simp) (by simp [Value.oneCell']) rfl ?_; intro w9 k9 g9)
        | fail)
      refine bodyPost_ret (results_row2 rfl _ w9 (w.heap.size + 1) 26 _ _ rfl k9 Try.underlying26 rfl (by kernel_rfl) _ rfl) rfl ?_
      refine ⟨gr, cc, ?_, ?_, V4.out.grown g9 V4.out.size (fun j e => by injection e with e; omega)⟩
      · rw [HLY.out]
        rfl
      · rw [HLY.out]
        exact own_grown' O4.out g9 (own_blk_ne O4.out R4.out (by decide))
end Go.Proofs.Ytoibgpmpngccjaa

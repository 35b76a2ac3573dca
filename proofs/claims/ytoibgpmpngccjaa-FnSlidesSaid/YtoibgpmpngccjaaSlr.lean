/- Walks: slices.Repeat of a list of one element, at singles. Condition: the count is from 0 to 1048576. -/
import Derived.Test.YtoibgpmpngccjaaHd
import Derived.Test.YtoibgpmpngccjaaApp
import Derived.Test.YtoibgpmpngccjaaShelf
import Derived.Laws.CopyOwn
import Derived.Deep.RegionLaw
namespace Go.Proofs.Ytoibgpmpngccjaa
open Go.RowKit Go.Lib

theorem replicate_get {x : Value} {n j : Nat} (h : j < n) : (List.replicate n x)[j]? = some x := by rw [List.getElem?_replicate, if_pos h]
theorem splice_fill {x : Value} {zs : List Value} {m k : Nat} (hz : ∀ j, j < m → zs[j]? = some x) (hk : m + k ≤ zs.length) : (splice zs m (List.replicate k x)).length = zs.length ∧ ∀ j, j < m + k → (splice zs m (List.replicate k x))[j]? = some x := by
  unfold splice
  refine ⟨by simp; omega, fun j hj => ?_⟩
  by_cases h1 : j < m
  · rw [List.getElem?_append_left (by simp; omega), List.getElem?_take_of_lt h1]
    exact hz j h1
  · rw [List.getElem?_append_right (by simp; omega), List.getElem?_append_left (by simp; omega)]
    exact replicate_get (by simp; omega)
theorem own_blk {w : World} {base g n : Nat} {e : TypeId} {xs : List Value} (h : w.ownsRow base e 1 (.slice (some ⟨g, 0, none⟩) n n) n xs) : Blk w g e xs.toArray := by
  rcases h.2 with ⟨h', _⟩ | ⟨g', cap, cur, hv, _, hh, _, _, hs, ht⟩
  · simp at h'
  · simp only [Value.slice.injEq, Option.some.injEq, Addr.mk.injEq, and_true, true_and] at hv
    obtain ⟨rfl, rfl⟩ := hv
    have e1 : cur.toList = xs := by rw [← ht, ← hs, ← Array.length_toList, List.take_length]
    rw [← e1]
    exact hh
theorem src_one {w : World} {b off n : Nat} {x : Value} (hx : w.cell? ⟨b, off, none⟩ = some x) (hn : n ≤ 1) : ∀ j v, (List.replicate n x)[j]? = some v → w.cell? ((⟨b, off, none⟩ : Addr).add j) = some v := fun j v hj => by
  rw [List.getElem?_replicate] at hj
  split at hj
  · injection hj with hj
    have : j = 0 := by omega
    subst this hj
    exact hx
  · cases hj
theorem src_row {w : World} {g k m : Nat} {e : TypeId} {x : Value} {zs : List Value} (hb : Blk w g e zs.toArray) (hz : ∀ j, j < m → zs[j]? = some x) (hk : k ≤ m) : ∀ j v, (List.replicate k x)[j]? = some v → w.cell? ((⟨g, 0, none⟩ : Addr).add j) = some v := fun j v hj => by
  rw [List.getElem?_replicate] at hj
  split at hj
  · injection hj with hj
    subst hj
    rw [Addr.add_mid, hb.cell, Nat.zero_add]
    simpa using hz j (by omega)
  · cases hj
theorem one_replicate {x : Value} {k : Nat} (h : x.oneCell' = true) : ∀ v ∈ List.replicate k x, v.oneCell' = true := fun v hv => by
  rw [List.eq_of_mem_replicate hv]; exact h
theorem all_replicate {x : Value} {zs : List Value} {n : Nat} (hl : zs.length = n) (hz : ∀ j, j < n → zs[j]? = some x) : zs = List.replicate n x := by
  refine List.ext_getElem? (fun j => ?_)
  by_cases h : j < n
  · rw [hz j h, replicate_get h]
  · rw [List.getElem?_eq_none (by omega), List.getElem?_eq_none (by simp; omega)]

set_option maxRecDepth 100000 in
set_option maxHeartbeats 1000000 in
theorem repeatF_one (b off c n : Nat) (x : Value) (w : World) (hn : n ≤ 1048576) (hx : w.cell? ⟨b, off, none⟩ = some x) (h1 : x.oneCell' = true) :
    Calls Try.prog 23 #[.slice (some ⟨b, off, none⟩) 1 c, .int .i64 n] w fun e w' => ∃ A', e = .returned (.slice A' n n) ∧ w'.ownsRow w.heap.size 30 1 (.slice A' n n) n (List.replicate n x) ∧ Below w.heap.size w w' := by
  obtain ⟨i0, hi, hz0, hz1, hz2⟩ := info_parts fltInfo
  have hbb := World.block_lt_of_cell? w _ hx
  have hn0 : ¬ ((n : Int) < 0) := by omega
  have hbig : decide ((9223372036854775807 : Int) < (n : Int)) = false := by simp; omega
  have hmul : ∀ w, Calls Try.prog 49 #[.int .u64 1, .int .u64 (n : Int)] w fun e w' => e = .returned (.tuple #[.int .u64 0, .int .u64 (n : Int)]) ∧ w' = w := fun w => by
    have h := Try.bits_Mul 1 n (by omega) (by omega) w
    rw [Nat.one_mul, Nat.div_eq_of_lt (by omega), Nat.mod_eq_of_lt (by omega)] at h
    exact h
  obtain ⟨k0, hk0, hk01, hk02⟩ : ∃ k0, Hid (min 1 n = k0) ∧ k0 ≤ n ∧ (1 ≤ n → 1 ≤ k0) := ⟨min 1 n, rfl, Nat.min_le_right _ _, fun h => by omega⟩
  have hk03 : k0 ≤ 1 := by rw [← hk0.out]; exact Nat.min_le_left _ _
  have HM := Lib.hid hmul
  clear hmul
  go_enter Try.func23, Try.ntmps23
  go_wp2_with fail
  refine (HM.out _).mono ?_
  rintro e w' ⟨rfl, rfl⟩
  go_wp2_with (first
    | (at_make; refine wpList_make_full _ rfl _ _ _ rfl w'.heap.size 30 i0 (Value.float .f32 0) 1 Try.underlying24 hi hz0 hz1 .i64 .i64 n n n rfl rfl rfl rfl (by rw [hz2]; omega) (by unfold maxLen; omega) (Nat.le_refl _) ?_; intro w1 ho1 hg1
       obtain ⟨zs, hzs⟩ : ∃ zs, zs = (madeCells (Value.float .f32 0).cells (n * 1)).toList := ⟨_, rfl⟩
       rw [← hzs] at ho1
       have hzl : zs.length = n := by have := ho1.1; omega
       have hk1 := own_blk ho1
       have hb1 := below_of_grown (B := w'.heap.size) hg1 (Nat.le_refl _) (by simp)
       have hx1 := (hb1.cell hbb).trans hx
       have hs1 : ∀ j v, (List.replicate (k0) x)[j]? = some v → w1.cell? ((⟨b, off, none⟩ : Addr).add j) = some v := src_one hx1 hk03
       clear hzs)
    | (refine wpList_copy_splice rfl (.tmp 31) (.tmp 32) _ _ rfl 30 Try.underlying24 (by kernel_rfl) (some ⟨w'.heap.size, 0, none⟩) (some ⟨b, off, none⟩) n n 1 c rfl rfl w'.heap.size 0 zs 30 hk1 (List.replicate (k0) x) (by rw [List.length_replicate]; exact hk0.out.symm) (fun _ => ⟨rfl, _, rfl, hs1⟩) (by rw [List.length_replicate]; omega) (one_replicate h1) w'.heap.size w' hb1 (Nat.le_refl _) ?_; intro w2 hk2 hb2; rw [show goInt ((List.replicate k0 x).length : Int) = Value.int .i64 (k0 : Int) from by rw [List.length_replicate]; rfl])
    | fail)
  obtain ⟨q1, q2⟩ := splice_fill (x := x) (zs := zs) (m := 0) (k := k0) (fun j hj => absurd hj (by omega)) (by omega)
  have Q2 := Lib.hid q2
  generalize splice zs 0 (List.replicate (k0) x) = zs2 at *
  go_loopw [8] (fun s wr => ∃ (m : Nat) (zs : List Value), s = .int .i64 m ∧ m ≤ n ∧ (1 ≤ n → 1 ≤ m) ∧ zs.length = n ∧ Hid (∀ j, j < m → zs[j]? = some x) ∧ Hid (Blk wr w'.heap.size 30 zs.toArray) ∧ Below w'.heap.size w' wr) (fun i _ => n - (RowKit.intOf i).toNat)
  case atStart => exact ⟨k0, zs2, rfl, by omega, hk02, by omega, by rw [Nat.zero_add] at Q2; exact Q2, hk2, hb2⟩
  case round =>
    clear Q2 hk2 hb2 q1 hk1 hb1 ho1 hg1 hs1 hx1 q2
    obtain ⟨m, zs, rfl, hm, hm1', hl, HZ, HK, hb⟩ := hrel
    by_cases hlt : m < n
    · have hsz := hb.size
      have hm1 : 1 ≤ m := hm1' (by omega)
      clear hm1'
      have hnm : ¬ n = m := by omega
      have hm0 : (0 : Int) ≤ (m : Int) := by omega
      have hm2 : (m : Int) ≤ (n : Int) := by omega
      obtain ⟨k, hk⟩ : ∃ k, Nat.min m (n - m) = k := ⟨_, rfl⟩
      have hk1 : k ≤ m := by rw [← hk]; exact Nat.min_le_left _ _
      have hk2 : k ≤ n - m := by rw [← hk]; exact Nat.min_le_right _ _
      have hk3 : 0 < k := by rw [← hk]; exact Nat.lt_min.2 ⟨by omega, by omega⟩
      have HK1 := Lib.hid hk
      clear hk
      have hwr : IntKind.i64.wrap ((m : Int) + (k : Int)) = (m : Int) + (k : Int) := IntWalk.i64_in _ (by omega)
      go_wp2
      go_region_law (refine step_copy_splice rfl (.tmp 41) (.tmp 44) _ _ (by rfl) 30 Try.underlying24 (by kernel_rfl) (some ⟨w'.heap.size, m, none⟩) (some ⟨w'.heap.size, 0, none⟩) (n - m) (n - m) m n (by simp [Act.eval, Act.put]) (by simp [Act.eval, Act.put]) w'.heap.size m zs 30 HK.out (List.replicate k x) (by rw [List.length_replicate]; exact HK1.out.symm) (fun _ => ⟨rfl, _, rfl, src_row HK.out HZ.out hk1⟩) (by rw [List.length_replicate]; omega) (one_replicate h1) w'.heap.size w' hb.drew (Nat.le_refl _) ?_; intro w3 hk3 hb3)
      have S3 := splice_fill (x := x) (zs := zs) (m := m) (k := k) HZ.out (by omega)
      have q3 := S3.1
      have Q3 := Lib.hid S3.2
      clear S3
      generalize splice zs m (List.replicate k x) = zs3 at *
      go_simp
      go_wp2
      go_roundw
      case rel => exact ⟨m + k, zs3, by simp, by omega, fun _ => by omega, by omega, Q3, hk3, hb3⟩
      case measure => simp [RowKit.intOf]; omega
    · obtain rfl : m = n := by omega
      go_wp2
      go_ret
      refine ⟨_, rfl, ?_, hb⟩
      have e := all_replicate hl HZ.out
      have q := HK.out.own (n := m) (size := 1) (Nat.le_refl _) (by simp [hl]) (by unfold maxLen; omega)
      rw [e] at q
      exact q
end Go.Proofs.Ytoibgpmpngccjaa

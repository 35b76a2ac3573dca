/- Walks: the laws' own functions on lists of integers and of truth values: those that compare, mark, and look whether the marks are held. -/
import Derived.Test.YtlklpfjcnbkhlaaRows
import Derived.Test.YtlklpfjcnbkhlaaMem
import Derived.Test.YtlklpfjcnbkhlaaBlk
import Derived.WalkSpells
import Derived.Handy
import Derived.StillTailTactics
import Derived.Deep.RegionHeld3
import Derived.Deep.QuietTactic
import Derived.BigQuiet
namespace Go.Proofs.Ytlklpfjcnbkhlaa
open Go.RowKit

def iv (n : Int) : Value := .int .i64 n
def bv (b : Bool) : Value := .bool b
def miv (k j : Nat) : Value := .int .i64 ((k + j : Nat) : Int)
def mbv (k j : Nat) : Value := .bool (((k : Int) + (j : Int)) % 3 == 0)

set_option maxRecDepth 100000 in
set_option maxHeartbeats 400000 in
theorem eqBoolS_same (A A' : Option Addr) (n c c' : Nat) (xs : List Bool) (w : World) (hn : n ≤ maxLen)
    (hA : Rd w w.heap.size 1 A n (xs.map bv)) (hA' : Rd w w.heap.size 1 A' n (xs.map bv)) :
    Calls Try.prog 44 #[.slice A n c, .slice A' n c'] w fun e w' => e = .returned (.bool true) ∧ Below w.heap.size w w' := by
  unfold maxLen at hn
  have hl : xs.length = n := by have := hA.len; simpa using this
  go_enter Try.func44, Try.ntmps44
  go_wp2
  go_loopw [5] (fun i wr => ∃ k : Nat, k ≤ n ∧ i = .int .i64 k ∧ Below w.heap.size w wr) (fun i _ => n - (intOf i).toNat)
  case atStart => exact ⟨0, Nat.zero_le _, rfl, Below.refl _ _⟩
  case round =>
    obtain ⟨k, hk, rfl, hb⟩ := hrel
    by_cases hlt : k < n
    · obtain ⟨b, off, rfl, hbb, hc⟩ := hA.2 (by omega)
      obtain ⟨b', off', rfl, hbb', hc'⟩ := hA'.2 (by omega)
      have hkl : k < xs.length := by omega
      have ex : (xs.map bv)[k]? = some (.bool xs[k]) := by rw [List.getElem?_map, List.getElem?_eq_getElem hkl]; rfl
      have c1 : wr.cell? ⟨b, off + k, none⟩ = some (.bool xs[k]) := (hb.cell hbb).trans (hc _ _ ex)
      have c3 : wr.cell? ⟨b', off' + k, none⟩ = some (.bool xs[k]) := (hb.cell hbb').trans (hc' _ _ ex)
      clear hc hc' ex
      generalize xs[k] = p at *
      have Hb := Lib.hid hb
      have hk0 : (0 : Int) ≤ (k : Int) := by omega
      have hk1 : (k : Int) < (n : Int) := by omega
      go_wp2
      go_quiet (fail)
      go_wp2
      go_roundw
      case rel => exact ⟨k + 1, by omega, by go_num, ⟨Hb.out.os, Hb.out.tape, Hb.out.output, Hb.out.size, Hb.out.block⟩⟩
      case measure => simp [intOf]; omega
    · go_wp2
      go_ret
      exact ⟨rfl, hb⟩

set_option maxRecDepth 100000 in
set_option maxHeartbeats 400000 in
theorem markBoolS_any (A : Option Addr) (n c k base : Nat) (xs : List Value) (w : World) (hk : k + n < 2147483648)
    (hown : w.ownsRow base 4 1 (.slice A n c) n xs) :
    Calls Try.prog 32 #[.slice A n c, .int .i64 k] w fun e w' => e = .returned (.int .i64 ((k + n : Nat) : Int)) ∧
      w'.ownsRow base 4 1 (.slice A n c) n ((List.range n).map (mbv k)) ∧ w.grownBy w' (Value.slice A n c).ownBlock := by
  have hlen : xs.length = n := by have := hown.1; omega
  go_enter Try.func32, Try.ntmps32
  go_wp2
  go_loopw [1, 5] (fun kv i wr => ∃ j : Nat, j ≤ n ∧ i = .int .i64 j ∧ kv = .int .i64 ((k + j : Nat) : Int) ∧ wr.ownsRow base 4 1 (.slice A n c) n (filled (mbv k) j xs) ∧ w.grownBy wr (Value.slice A n c).ownBlock) (fun _ i _ => n - (intOf i).toNat)
  case atStart => exact ⟨0, Nat.zero_le _, rfl, by simp, by simpa [filled_zero] using hown, World.grownBy.refl _ _⟩
  case round =>
    obtain ⟨j, hj, rfl, rfl, ho, hg⟩ := hrel
    by_cases hlt : j < n
    · obtain ⟨g, cap, hv, _, hgl⟩ := ho.form (by omega)
      obtain ⟨rfl, rfl⟩ : A = some ⟨g, 0, none⟩ ∧ c = cap := by injection hv with h1 _ h3; exact ⟨h1, h3⟩
      have f1 : j < (filled (mbv k) j xs).length := by rw [filled_len _ (by omega)]; omega
      have cA : wr.cell? ⟨g, j, none⟩ = some (filled (mbv k) j xs)[j] := by rw [ho.cellAt _ (by omega), List.getElem?_eq_getElem f1]
      have fA : wr.frozen? ⟨g, j, none⟩ = false := ho.frozenAt _
      obtain ⟨ho1, hg1⟩ := ho.stored j (mbv k j)
      rw [filled_set _ (by omega) _ rfl] at ho1
      go_wp2
      go_roundw
      case rel => exact ⟨j + 1, by omega, by go_num, by simp [Int.add_assoc], ho1, grown_trans' hg hg1⟩
      case measure => simp [intOf]; omega
    · obtain rfl : j = n := by omega
      go_wp2
      go_ret
      refine ⟨by simp, ?_, hg⟩
      have := filled_all (mbv k) xs
      rw [hlen] at this
      rwa [this] at ho

set_option maxRecDepth 100000 in
set_option maxHeartbeats 400000 in
theorem heldBoolS_any (A : Option Addr) (n c k : Nat) (w : World) (hk : k + n < 2147483648)
    (hA : Rd w w.heap.size 1 A n ((List.range n).map (mbv k))) :
    Calls Try.prog 33 #[.slice A n c, .int .i64 k] w fun e w' => e = .returned (.int .i64 ((k + n : Nat) : Int)) ∧ w' = w := by
  go_enter Try.func33, Try.ntmps33
  go_wp2
  go_loop [1, 5] (fun kv i => ∃ j : Nat, j ≤ n ∧ i = .int .i64 j ∧ kv = .int .i64 ((k + j : Nat) : Int)) (fun _ i => n - (intOf i).toNat)
  case atStart => exact ⟨0, Nat.zero_le _, rfl, by simp⟩
  case round =>
    obtain ⟨j, hj, rfl, rfl⟩ := hrel
    by_cases hlt : j < n
    · obtain ⟨b, off, rfl, hbb, hc⟩ := hA.2 (by omega)
      have c1 : w.cell? ⟨b, off + j, none⟩ = some (.bool (((k : Int) + (j : Int)) % 3 == 0)) := hc _ _ (range_map_get _ (by omega))
      clear hc
      go_wp2
      go_round
      case rel => exact ⟨j + 1, by omega, by go_num, by simp [Int.add_assoc]⟩
      case measure => simp [intOf]; omega
    · obtain rfl : j = n := by omega
      go_wp2
      go_ret
      exact ⟨by simp, rfl⟩

theorem boolInfo : (Try.prog.info? 4).map (fun i => (i.zero, i.size, i.bytes)) = some (some (.bool false), 1, 1) := by kernel_rfl
theorem intInfo : (Try.prog.info? 2).map (fun i => (i.zero, i.size, i.bytes)) = some (some (.int .i64 0), 1, 8) := by kernel_rfl

set_option maxRecDepth 100000 in
set_option maxHeartbeats 400000 in
theorem toBoolS_any (A : Option Addr) (n c : Nat) (xs : List Bool) (w : World) (hn : n ≤ 1048576) (hA : Rd w w.heap.size 1 A n (xs.map bv)) :
    Calls Try.prog 47 #[.slice A n c] w fun e w' => ∃ A', e = .returned (.slice A' n n) ∧ w'.ownsRow w.heap.size 4 1 (.slice A' n n) n (xs.map bv) ∧ Below w.heap.size w w' := by
  obtain ⟨i0, hi, hz0, hz1, hz2⟩ := info_parts boolInfo
  have hl : xs.length = n := by have := hA.len; simpa using this
  go_enter Try.func47, Try.ntmps47
  go_wp2_with (at_make; refine wpList_make_full _ rfl _ _ _ rfl w.heap.size 4 i0 (.bool false) 1 Try.underlying30 hi hz0 hz1 .i64 .i64 n n n rfl rfl rfl rfl (by rw [hz2]; omega) (by unfold maxLen; omega) (Nat.le_refl _) ?_; intro w1 ho1 hg1)
  have hml : (madeCells (Value.bool false).cells (n * 1)).toList.length = n := by have := ho1.1; omega
  generalize (madeCells (Value.bool false).cells (n * 1)).toList = zs at *
  go_loopw [4] (fun i wr => ∃ j : Nat, j ≤ n ∧ i = .int .i64 j ∧ wr.ownsRow w.heap.size 4 1 (.slice (some ⟨w.heap.size, 0, none⟩) n n) n (filled (fun j => bv (xs.getD j false)) j zs) ∧ Below w.heap.size w wr) (fun i _ => n - (intOf i).toNat)
  case atStart => exact ⟨0, Nat.zero_le _, rfl, by simpa [filled_zero] using ho1, below_of_grown hg1 (Nat.le_refl _) (by simp)⟩
  case round =>
    obtain ⟨j, hj, rfl, ho, hb⟩ := hrel
    by_cases hlt : j < n
    · obtain ⟨b, off, rfl, hbb, hc⟩ := hA.2 (by omega)
      have hkl : j < xs.length := by omega
      have ex : (xs.map bv)[j]? = some (.bool (xs.getD j false)) := by rw [List.getElem?_map, List.getElem?_eq_getElem hkl, List.getD_eq_getElem?_getD, List.getElem?_eq_getElem hkl]; rfl
      have c1 : wr.cell? ⟨b, off + j, none⟩ = some (.bool (xs.getD j false)) := (hb.cell hbb).trans (hc _ _ ex)
      obtain ⟨ho2, hg2⟩ := ho.stored j (bv (xs.getD j false))
      rw [filled_set _ (by omega) _ rfl] at ho2
      have f1 : j < (filled (fun j => bv (xs.getD j false)) j zs).length := by rw [filled_len _ (by omega)]; omega
      have cA : wr.cell? ⟨w.heap.size, j, none⟩ = some (filled (fun j => bv (xs.getD j false)) j zs)[j] := by rw [ho.cellAt _ (by omega), List.getElem?_eq_getElem f1]
      have fA : wr.frozen? ⟨w.heap.size, j, none⟩ = false := ho.frozenAt _
      clear hc ex
      generalize xs.getD j false = p at *
      have HO := Lib.hid ho2
      have HG := Lib.hid (hb.grown hg2 hb.size (by simp))
      clear ho2 hg2 ho
      go_wp2
      go_roundw
      case rel => exact ⟨j + 1, by omega, by go_num, HO.out, HG.out⟩
      case measure => simp [intOf]; omega
    · obtain rfl : j = n := by omega
      go_wp2
      go_ret
      refine ⟨_, rfl, ?_, hb⟩
      have e : filled (fun j => bv (xs.getD j false)) j zs = xs.map bv := by
        have h := filled_all (fun j => bv (xs.getD j false)) zs
        rw [hml] at h
        rw [h]
        refine List.ext_getElem (by simp; omega) (fun i h1 h2 => ?_)
        simp at h1 h2
        simp [List.getD_eq_getElem?_getD, List.getElem?_eq_getElem h2]
      rwa [e] at ho
end Go.Proofs.Ytlklpfjcnbkhlaa

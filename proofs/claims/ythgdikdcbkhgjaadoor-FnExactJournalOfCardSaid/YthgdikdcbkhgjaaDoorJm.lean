/- Walks: the laws' equality of lists of texts, their marks on such lists, and whether they are held. Conditions: the numbers stay below 2^31. -/
import Derived.Test.YthgdikdcbkhgjaaDoorRows
import Derived.Test.YthgdikdcbkhgjaaDoorMem
import Derived.Test.YthgdikdcbkhgjaaDoorMt
import Derived.WalkSpells
import Derived.Handy
import Derived.Deep.QuietTactic
import Derived.Deep.RegionHeld3
namespace Go.Proofs.YthgdikdcbkhgjaaDoor
open Go.RowKit

def mtS (k : Nat) (j : Nat) : Value := .string (mt (k + j))
set_option maxRecDepth 100000 in
set_option maxHeartbeats 1000000 in
theorem eqStringS_same (A A' : Option Addr) (n c c' : Nat) (xs : List ByteArray) (w : World) (hn : n ≤ maxLen) (hA : Rd w w.heap.size 1 A n (xs.map Value.string)) (hA' : Rd w w.heap.size 1 A' n (xs.map Value.string)) :
    Calls Tryd.prog 18 #[.slice A n c, .slice A' n c'] w fun e w' => e = .returned (.bool true) ∧ Below w.heap.size w w' := by
  unfold maxLen at hn
  have hl : xs.length = n := by have := hA.1; simpa using this
  have HA := Lib.hid hA
  have HA' := Lib.hid hA'
  have HL := Lib.hid hl
  have hnn : ((n : Int) == (n : Int)) = true := by simp
  clear hA hA' hl
  go_enter Tryd.func18, Tryd.ntmps18
  go_wp2
  go_loopw [5] (fun i wr => ∃ k : Nat, k ≤ n ∧ i = .int .i64 k ∧ Below w.heap.size w wr) (fun i _ => n - (intOf i).toNat)
  case atStart => exact ⟨0, Nat.zero_le _, rfl, Below.refl _ _⟩
  case round =>
    obtain ⟨k, hk, rfl, hb⟩ := hrel
    by_cases hlt : k < n
    · obtain ⟨b, off, rfl, hbb, hc⟩ := HA.out.2 (by omega)
      obtain ⟨b', off', rfl, hbb', hc'⟩ := HA'.out.2 (by omega)
      obtain ⟨x, hx⟩ : ∃ x, xs[k]? = some x := ⟨_, List.getElem?_eq_getElem (by rw [HL.out]; exact hlt)⟩
      have c1 : wr.cell? ⟨b, off + k, none⟩ = some (.string x) := (hb.cell hbb).trans (hc _ _ (by rw [List.getElem?_map, hx]; rfl))
      have c2 : wr.cell? ⟨b', off' + k, none⟩ = some (.string x) := (hb.cell hbb').trans (hc' _ _ (by rw [List.getElem?_map, hx]; rfl))
      have hxx : (!(x.toList == x.toList)) = false := by simp
      have hki : (k : Int) < (n : Int) := by omega
      have Hb := Lib.hid hb
      clear hc hc' hx hb
      go_wp2
      go_region
      go_wp2
      go_roundw
      case rel => exact ⟨k + 1, by omega, by go_num, Hb.out.drew⟩
      case measure => simp [intOf]; omega
    · obtain rfl : k = n := by omega
      have Hb := Lib.hid hb
      clear hb
      go_wp2
      go_ret
      exact ⟨rfl, Hb.out⟩
set_option maxRecDepth 100000 in
set_option maxHeartbeats 1000000 in
theorem markStringS_any (A : Option Addr) (n c k base : Nat) (xs : List Value) (w : World) (hk0 : 0 < k) (hk : k + n < 2147483648)
    (hown : w.ownsRow base 9 1 (.slice A n c) n xs) :
    Calls Tryd.prog 21 #[.slice A n c, .int .i64 k] w fun e w' => e = .returned (.int .i64 ((k + n : Nat) : Int)) ∧
      w'.ownsRow base 9 1 (.slice A n c) n ((List.range n).map (mtS k)) ∧ w.grownBy w' (Value.slice A n c).ownBlock := by
  have hlen : xs.length = n * 1 := hown.1
  go_enter Tryd.func21, Tryd.ntmps21
  go_wp2
  go_loopw [1, 5] (fun kv i wr => ∃ j : Nat, j ≤ n ∧ i = .int .i64 j ∧ kv = .int .i64 ((k : Int) + (j : Int)) ∧ wr.ownsRow base 9 1 (.slice A n c) n (filled (mtS k) j xs) ∧ w.grownBy wr (Value.slice A n c).ownBlock) (fun _ i _ => n - (intOf i).toNat)
  case atStart => exact ⟨0, Nat.zero_le _, rfl, by simp, by simpa [filled_zero] using hown, World.grownBy.refl _ _⟩
  case round =>
    obtain ⟨j, hj, rfl, rfl, ho, hg⟩ := hrel
    by_cases hlt : j < n
    · obtain ⟨g, cap, hv, _, hgl⟩ := ho.form (by omega)
      obtain ⟨rfl, rfl⟩ : A = some ⟨g, 0, none⟩ ∧ c = cap := by injection hv with h1 _ h3; exact ⟨h1, h3⟩
      have f1 : j < (filled (mtS k) j xs).length := by rw [filled_len _ (by omega)]; omega
      go_wp2_with fail
      refine (markText_int _ _ (by omega) (by omega)).mono ?_
      rintro e w1 ⟨rfl, hb1⟩
      have ho1 := own_below ho hb1
      have cA : w1.cell? ⟨g, j, none⟩ = some (filled (mtS k) j xs)[j] := by
        rw [ho1.cellAt _ (by omega), List.getElem?_eq_getElem f1]
      have fA : w1.frozen? ⟨g, j, none⟩ = false := ho1.frozenAt _
      obtain ⟨ho2, hg2⟩ := ho1.stored j (.string (mt ((k : Int) + (j : Int)).toNat))
      have e1 : (filled (mtS k) j xs).set j (.string (mt ((k : Int) + (j : Int)).toNat)) = filled (mtS k) (j + 1) xs := filled_set _ (by omega) _ (by simp only [mtS]; congr 2)
      rw [e1] at ho2
      have HO2 := Lib.hid ho2
      have HG2 := Lib.hid (grown_trans' (grown_trans' hg (grown_of_below hb1 _)) hg2)
      clear e1 ho2 hg2 ho1
      go_wp2_with fail
      go_roundw
      case rel => exact ⟨j + 1, by omega, by go_num, by congr 1, HO2.out, HG2.out⟩
      case measure => simp [intOf]; omega
    · obtain rfl : j = n := by omega
      go_wp2
      go_ret
      refine ⟨by simp, ?_, hg⟩
      have := filled_all (mtS k) xs
      rw [hlen, Nat.mul_one] at this
      rwa [this] at ho
set_option maxRecDepth 100000 in
set_option maxHeartbeats 1000000 in
theorem heldStringS_any (A : Option Addr) (n c k : Nat) (w : World) (hk0 : 0 < k) (hk : k + n < 2147483648)
    (hA : Rd w w.heap.size 1 A n ((List.range n).map (mtS k))) :
    Calls Tryd.prog 22 #[.slice A n c, .int .i64 k] w fun e w' => e = .returned (.int .i64 ((k + n : Nat) : Int)) ∧ Below w.heap.size w w' := by
  go_enter Tryd.func22, Tryd.ntmps22
  go_wp2
  go_loopw [1, 5] (fun kv i wr => ∃ j : Nat, j ≤ n ∧ i = .int .i64 j ∧ kv = .int .i64 ((k : Int) + (j : Int)) ∧ Below w.heap.size w wr) (fun _ i _ => n - (intOf i).toNat)
  case atStart => exact ⟨0, Nat.zero_le _, rfl, by simp, Below.refl _ _⟩
  case round =>
    obtain ⟨j, hj, rfl, rfl, hb⟩ := hrel
    have hsz := hb.size
    by_cases hlt : j < n
    · obtain ⟨b, off, rfl, hbb, hc⟩ := hA.2 (by omega)
      have c1 : w.cell? ⟨b, off + j, none⟩ = some (.string (mt (k + j))) := hc _ _ (range_map_get _ (by omega))
      have C1 := Lib.hid c1
      have hmm : (!(mt (k + j)).toList == (mt (k + j)).toList) = false := by simp
      clear hc c1
      go_wp2
      go_region_held3 (fun w' => w'.cell? ⟨b, off + j, none⟩ = some (.string (mt (k + j))) ∧ Below w.heap.size w w') (first | exact ⟨(hb.drew.cell hbb).trans C1.out, hb.drew⟩ | exact held1 (by assumption) hb1)
        (first | (go_at_call 42; refine (markText_int _ _ (by omega) (by omega)).mono ?_; rintro e w1 ⟨rfl, hb1⟩; rw [show ((k : Int) + (j : Int)).toNat = k + j from by omega]))
      obtain ⟨-, hb2⟩ := ‹_ ∧ Below w.heap.size w w1›
      have hsz2 := hb2.size
      go_wp2
      go_roundw
      case rel => exact ⟨j + 1, by omega, by go_num, by congr 1, hb2⟩
      case measure => simp [intOf]; omega
    · obtain rfl : j = n := by omega
      go_wp2
      go_ret
      exact ⟨by simp, hb⟩
end Go.Proofs.YthgdikdcbkhgjaaDoor

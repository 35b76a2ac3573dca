/- Walks: the laws' own marking functions, and those that look whether the marks are held. -/
import Derived.Test.YthgdikdcbkhgjaaDoorRows
import Derived.Test.YthgdikdcbkhgjaaDoorMem
import Derived.Test.YthgdikdcbkhgjaaDoorMt
import Derived.WalkSpells
import Derived.Handy
import Derived.StillTailTactics
import Derived.Deep.RegionHeld3
namespace Go.Proofs.YthgdikdcbkhgjaaDoor
open Go.RowKit

def mtv (k : Nat) (j : Nat) : Value := .string (mt (k + j))

set_option maxRecDepth 100000 in
set_option maxHeartbeats 800000 in
theorem markRuleS_any (A : Option Addr) (n c k base : Nat) (xs : List Value) (w : World) (hk0 : 0 < k) (hk : k + 2 * n < 2147483648)
    (hown : w.ownsRow base 45 2 (.slice A n c) n xs) :
    Calls Tryd.prog 29 #[.slice A n c, .int .i64 k] w fun e w' => e = .returned (.int .i64 ((k + 2 * n : Nat) : Int)) ∧
      w'.ownsRow base 45 2 (.slice A n c) n ((List.range (2 * n)).map (mtv k)) ∧ w.grownBy w' (Value.slice A n c).ownBlock := by
  have hlen : xs.length = n * 2 := hown.1
  go_enter Tryd.func29, Tryd.ntmps29
  go_wp2
  go_loopw [1, 5] (fun kv i wr => ∃ j : Nat, j ≤ n ∧ i = .int .i64 j ∧ kv = .int .i64 ((k : Int) + 2 * (j : Int)) ∧ wr.ownsRow base 45 2 (.slice A n c) n (filled (mtv k) (2 * j) xs) ∧ w.grownBy wr (Value.slice A n c).ownBlock) (fun _ i _ => n - (intOf i).toNat)
  case atStart => exact ⟨0, Nat.zero_le _, rfl, by simp, by simpa [filled_zero] using hown, World.grownBy.refl _ _⟩
  case round =>
    obtain ⟨j, hj, rfl, rfl, ho, hg⟩ := hrel
    by_cases hlt : j < n
    · obtain ⟨g, cap, hv, _, hgl⟩ := ho.form (by omega)
      obtain ⟨rfl, rfl⟩ : A = some ⟨g, 0, none⟩ ∧ c = cap := by injection hv with h1 _ h3; exact ⟨h1, h3⟩
      have f1 : 2 * j < (filled (mtv k) (2 * j) xs).length := by rw [filled_len _ (by omega)]; omega
      go_wp2_with fail
      refine (markText_int _ _ (by omega) (by omega)).mono ?_
      rintro e w1 ⟨rfl, hb1⟩
      have ho1 := own_below ho hb1
      have cA : w1.cell? ⟨g, j * 2, none⟩ = some (filled (mtv k) (2 * j) xs)[2 * j] := by
        rw [ho1.cellAt _ (by omega), show j * 2 = 2 * j from by omega, List.getElem?_eq_getElem f1]
      have fA : w1.frozen? ⟨g, j * 2, none⟩ = false := ho1.frozenAt _
      obtain ⟨ho2, hg2⟩ := ho1.stored (j * 2) (.string (mt ((k : Int) + 2 * (j : Int)).toNat))
      have e1 : (filled (mtv k) (2 * j) xs).set (j * 2) (.string (mt ((k : Int) + 2 * (j : Int)).toNat)) = filled (mtv k) (2 * j + 1) xs := by
        rw [show j * 2 = 2 * j from by omega]
        exact filled_set _ (by omega) _ (by simp only [mtv]; congr 2)
      rw [e1] at ho2
      have f2 : 2 * j + 1 < (filled (mtv k) (2 * j + 1) xs).length := by rw [filled_len _ (by omega)]; omega
      have E1 := Lib.hid e1
      clear e1
      go_wp2_with fail
      refine (markText_int _ _ (by omega) (by omega)).mono ?_
      rintro e w2 ⟨rfl, hb2⟩
      have ho3 := own_below ho2 hb2
      have cB : w2.cell? ⟨g, j * 2 + 1, none⟩ = some (filled (mtv k) (2 * j + 1) xs)[2 * j + 1] := by
        rw [ho3.cellAt _ (by omega), show j * 2 + 1 = 2 * j + 1 from by omega, List.getElem?_eq_getElem f2]
      have fB : w2.frozen? ⟨g, j * 2 + 1, none⟩ = false := ho3.frozenAt _
      go_wp2_with fail
      go_roundw
      case rel =>
        have q := (ho3.stored (2 * j + 1) (mtv k (2 * j + 1)))
        rw [filled_set _ (by omega) _ rfl] at q
        refine ⟨j + 1, by omega, by go_num, by congr 1, ?_, ?_⟩
        · rw [show 2 * (j + 1) = 2 * j + 1 + 1 from by omega, show j * 2 + 1 = 2 * j + 1 from by omega]
          exact q.1
        · rw [show j * 2 + 1 = 2 * j + 1 from by omega]
          exact grown_trans' (grown_trans' hg (grown_of_below hb1 _)) (grown_trans' (grown_trans' hg2 (grown_of_below hb2 _)) q.2)
      case measure => simp [intOf]; omega
    · obtain rfl : j = n := by omega
      go_wp2
      go_ret
      refine ⟨by simp, ?_, hg⟩
      have := filled_all (mtv k) xs
      rw [hlen, Nat.mul_comm] at this
      rwa [this] at ho

set_option maxRecDepth 100000 in
set_option maxHeartbeats 800000 in
theorem heldRuleS_any (A : Option Addr) (n c k : Nat) (w : World) (hk0 : 0 < k) (hk : k + 2 * n < 2147483648)
    (hA : Rd w w.heap.size 2 A n ((List.range (2 * n)).map (mtv k))) :
    Calls Tryd.prog 30 #[.slice A n c, .int .i64 k] w fun e w' => e = .returned (.int .i64 ((k + 2 * n : Nat) : Int)) ∧ Below w.heap.size w w' := by
  go_enter Tryd.func30, Tryd.ntmps30
  go_wp2
  go_loopw [1, 5] (fun kv i wr => ∃ j : Nat, j ≤ n ∧ i = .int .i64 j ∧ kv = .int .i64 ((k : Int) + 2 * (j : Int)) ∧ Below w.heap.size w wr) (fun _ i _ => n - (intOf i).toNat)
  case atStart => exact ⟨0, Nat.zero_le _, rfl, by simp, Below.refl _ _⟩
  case round =>
    obtain ⟨j, hj, rfl, rfl, hb⟩ := hrel
    have hsz := hb.size
    by_cases hlt : j < n
    · obtain ⟨b, off, rfl, hbb, hc⟩ := hA.2 (by omega)
      have c1 : w.cell? ⟨b, off + j * 2, none⟩ = some (.string (mt (k + j * 2))) := hc _ _ (range_map_get _ (by omega))
      have c2 : w.cell? ⟨b, off + j * 2 + 1, none⟩ = some (.string (mt (k + (j * 2 + 1)))) := hc (j * 2 + 1) _ (range_map_get _ (by omega))
      have C1 := Lib.hid c1
      have C2 := Lib.hid c2
      clear hc c1 c2
      go_wp2
      go_region_held3 (fun w' => w'.cell? ⟨b, off + j * 2, none⟩ = some (.string (mt (k + j * 2))) ∧ Below w.heap.size w w') (first | exact ⟨(hb.drew.cell hbb).trans C1.out, hb.drew⟩ | exact held1 (by assumption) hb1)
        (first | (go_at_call 42; refine (markText_int _ _ (by omega) (by omega)).mono ?_; rintro e w1 ⟨rfl, hb1⟩; rw [show ((k : Int) + 2 * (j : Int)).toNat = k + j * 2 from by omega]))
      obtain ⟨-, hb2⟩ := ‹_ ∧ Below w.heap.size w w1›
      have hsz2 := hb2.size
      go_wp2_with fail
      go_region_held3 (fun w' => w'.cell? ⟨b, off + j * 2 + 1, none⟩ = some (.string (mt (k + (j * 2 + 1)))) ∧ Below w.heap.size w w') (first | exact ⟨(hb2.drew.cell hbb).trans C2.out, hb2.drew⟩ | exact held1 (by assumption) hb3)
        (first | (go_at_call 42; refine (markText_int _ _ (by omega) (by omega)).mono ?_; rintro e w3 ⟨rfl, hb3⟩; rw [show ((k : Int) + 2 * (j : Int) + 1).toNat = k + (j * 2 + 1) from by omega]))
      obtain ⟨-, hb4⟩ := ‹_ ∧ Below w.heap.size w w3›
      go_wp2
      go_roundw
      case rel => exact ⟨j + 1, by omega, by go_num, by congr 1, hb4⟩
      case measure => simp [intOf]; omega
    · obtain rfl : j = n := by omega
      go_wp2
      go_ret
      exact ⟨by simp, hb⟩
end Go.Proofs.YthgdikdcbkhgjaaDoor

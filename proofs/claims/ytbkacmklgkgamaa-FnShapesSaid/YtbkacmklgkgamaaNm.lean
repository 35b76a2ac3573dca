/- Walks: names and check numbers, by the program and by the reference. Condition: texts are shorter than 2^63. -/
import Derived.Test.YtbkacmklgkgamaaVd
namespace Go.Proofs.Ytbkacmklgkgamaa
open Go.RowKit

def nameN (x : Nat) : Bool := decide (97 ≤ x ∧ x ≤ 122)
def nameTo (s : ByteArray) (k : Nat) : Bool := (s.data.toList.take k).all fun b => nameN b.toNat
theorem nameTo_zero (s : ByteArray) : nameTo s 0 = true := rfl
theorem nameTo_succ (s : ByteArray) (k : Nat) (h : k < s.size) : nameTo s (k + 1) = (nameTo s k && nameN s[k].toNat) := by
  unfold nameTo
  rw [List.take_succ_eq_append_getElem (by simpa using h), List.all_append]
  simp
  rfl
theorem nameTo_no {s : ByteArray} {k : Nat} (h : k < s.size) (hk : nameN s[k].toNat = false) : nameTo s s.size = false := by
  unfold nameTo
  rw [List.take_of_length_le (by simp), List.all_eq_false]
  exact ⟨s[k], by simp [ByteArray.getElem_eq_getElem_data], by rw [hk]; simp⟩
def nameB (s : ByteArray) : Bool := nameTo s s.size && decide (1 ≤ s.size ∧ s.size ≤ 8)

def chkStep (n : Nat) (b : UInt8) : Nat := (857 * n + b.toNat + 149) % 65003
def chk (n : Nat) (l : List UInt8) : Nat := l.foldl chkStep n
theorem chk_lt {n : Nat} (h : n < 65003) (l : List UInt8) : chk n l < 65003 := by
  unfold chk
  induction l generalizing n with
  | nil => exact h
  | cons b l ih => exact ih (Nat.mod_lt _ (by omega))
theorem chk_succ (n : Nat) (s : ByteArray) (k : Nat) (h : k < s.size) : chk n (s.data.toList.take (k + 1)) = chkStep (chk n (s.data.toList.take k)) s[k] := by
  unfold chk
  rw [List.take_succ_eq_append_getElem (by simpa using h), List.foldl_append]
  rfl

set_option maxRecDepth 100000 in
set_option maxHeartbeats 1000000 in
theorem IsName_any (s : ByteArray) (w : World) (hs : s.size ≤ maxLen) : Calls Try.prog 33 #[.string s] w fun e w' => e = .returned (.bool (nameB s)) ∧ w' = w := by
  unfold maxLen at hs
  go_enter Try.func33, Try.ntmps33
  go_wp2
  go_loop [6] (fun i => ∃ k : Nat, k ≤ s.size ∧ i = .int .i64 k ∧ Hid (nameTo s k = true)) (fun i => s.size - (intOf i).toNat)
  case atStart => exact ⟨0, Nat.zero_le _, rfl, nameTo_zero s⟩
  case round =>
    obtain ⟨k, hk, rfl, hok⟩ := hrel
    by_cases hlt : k < s.size
    · have hsu := nameTo_succ s k hlt
      rw [hok.out, Bool.true_and] at hsu
      have hno := nameTo_no (s := s) (k := k) hlt
      have hx : s[k].toNat ≤ 255 := by have := s[k].toNat_lt; omega
      obtain ⟨x, ex⟩ : ∃ x : Nat, s[k].toNat = x := ⟨_, rfl⟩
      rw [ex] at hsu hno hx
      have O1 : Hid (nameN x = true → Hid (nameTo s (k + 1) = true)) := fun h => by rw [h] at hsu; exact hsu
      have O2 : Hid (nameN x = false → Hid (nameB s = false)) := fun h => by unfold Hid nameB; rw [hno h, Bool.false_and]
      clear hsu hno
      by_cases h1 : 97 ≤ x
      · by_cases h2 : x ≤ 122
        · have HS := O1.out (by unfold nameN; simp; omega)
          go_wp2
          go_round
          case rel => exact ⟨k + 1, by omega, by go_num, HS⟩
          case measure => simp [intOf]; omega
        · have HS := O2.out (by unfold nameN; simp; omega)
          go_wp2
          go_ret
          exact ⟨ret_bool HS.out.symm, rfl⟩
      · have HS := O2.out (by unfold nameN; simp; omega)
        go_wp2
        go_ret
        exact ⟨ret_bool HS.out.symm, rfl⟩
    · obtain rfl : k = s.size := by omega
      by_cases h1 : 1 ≤ s.size
      · go_wp2
        go_ret
        exact ⟨ret_bool (by unfold nameB; rw [hok.out, Bool.eq_iff_iff]; simp; omega), rfl⟩
      · have h0 : decide (1 ≤ s.size ∧ s.size ≤ 8) = false := by
          rw [decide_eq_false_iff_not]
          omega
        have H0 := Lib.hid h0
        clear h0
        go_wp2
        go_ret
        exact ⟨ret_bool (by unfold nameB; rw [H0.out, Bool.and_false]), rfl⟩
theorem chk_cast (n : Nat) (b : UInt8) : ((857 * (n : Int) + (b.toNat : Int) + 149) % 65003) = ((chkStep n b : Nat) : Int) := by unfold chkStep; omega
theorem ret_int' {k : IntKind} {a b : Int} (h : a = b) : Ending.returned (.int k a) = .returned (.int k b) := by rw [h]
set_option maxRecDepth 100000 in
set_option maxHeartbeats 1000000 in
theorem CheckOf_any (n : Nat) (s : ByteArray) (w : World) (hs : s.size ≤ maxLen) (hn : n < 65003) : Calls Try.prog 49 #[.int .i64 (n : Int), .string s] w fun e w' => e = .returned (.tuple #[.int .i64 (chk n s.data.toList : Nat), .bool true]) ∧ w' = w := by
  unfold maxLen at hs
  have hb : inB (n : Int) 0 65002 = true := by unfold inB; simp; omega
  have HB := Lib.hid hb
  clear hb
  go_enter Try.func49, Try.ntmps49
  go_wp2_with fail
  refine (within_any _ _ _ _).mono ?_
  rintro e w5 ⟨rfl, h5⟩
  obtain rfl := h5.symm
  rw [HB.out]
  go_wp2
  go_loop [0, 12] (fun sn i => ∃ k : Nat, k ≤ s.size ∧ i = .int .i64 k ∧ sn = .int .i64 (chk n (s.data.toList.take k) : Nat)) (fun _ i => s.size - (intOf i).toNat)
  case atStart => exact ⟨0, Nat.zero_le _, rfl, rfl⟩
  case round =>
    obtain ⟨k, hk, rfl, rfl⟩ := hrel
    have hm := chk_lt hn (s.data.toList.take k)
    by_cases hlt : k < s.size
    · have hsu := chk_succ n s k hlt
      have hc := chk_cast (chk n (s.data.toList.take k)) s[k]
      have hx : s[k].toNat ≤ 255 := by have := s[k].toNat_lt; omega
      have HS := Lib.hid hsu
      obtain ⟨m, hm'⟩ : ∃ m, chk n (s.data.toList.take k) = m := ⟨_, rfl⟩
      rw [hm'] at hm hc HS ⊢
      clear hsu hm'
      go_wp2
      go_round
      case rel => exact ⟨k + 1, by omega, by go_num, by rw [HS.out, ← hc]⟩
      case measure => simp [intOf]; omega
    · obtain rfl : k = s.size := by omega
      have e : chk n (s.data.toList.take s.size) = chk n s.data.toList := by rw [List.take_of_length_le (by simp)]
      have HE := Lib.hid e
      clear e
      go_wp2
      go_ret2
      exact ⟨by rw [← HE.out]; rfl, rfl⟩
end Go.Proofs.Ytbkacmklgkgamaa

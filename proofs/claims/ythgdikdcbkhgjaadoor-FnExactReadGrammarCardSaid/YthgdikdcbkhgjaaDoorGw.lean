/- Walks: words, by the program and by the reference. Conditions: none. -/
import Derived.Test.YthgdikdcbkhgjaaDoorMem
import Derived.Test.YthgdikdcbkhgjaaDoorShelf
import Derived.WalkSpells
import Derived.WalkLawsBesides
namespace Go.Proofs.YthgdikdcbkhgjaaDoor
open Go.RowKit

def letterN (x : Nat) : Bool := decide (65 ≤ x ∧ x ≤ 90)
def okN (x : Nat) : Bool := letterN x || x == 43 || x == 45 || x == 91 || x == 93
/-- Whether all of the first k bytes can stand in a word. -/
def okTo (s : ByteArray) (k : Nat) : Bool := (s.data.toList.take k).all fun b => okN b.toNat
theorem okTo_zero (s : ByteArray) : okTo s 0 = true := rfl
theorem okTo_succ (s : ByteArray) (k : Nat) (h : k < s.size) : okTo s (k + 1) = (okTo s k && okN s[k].toNat) := by
  unfold okTo
  rw [List.take_succ_eq_append_getElem (by simpa using h), List.all_append]
  simp
  rfl
theorem okTo_no {s : ByteArray} {k : Nat} (h : k < s.size) (hk : okN s[k].toNat = false) : okTo s s.size = false := by
  unfold okTo
  rw [List.take_of_length_le (by simp), List.all_eq_false]
  exact ⟨s[k], by simp [ByteArray.getElem_eq_getElem_data], by rw [hk]; simp⟩
def wordB (s : ByteArray) (m : Nat) : Bool := decide (s.size ≤ m) && okTo s s.size
theorem ret_bool {a b : Bool} (h : a = b) : Ending.returned (.bool a) = .returned (.bool b) := by rw [h]

set_option maxRecDepth 100000 in
set_option maxHeartbeats 1000000 in
theorem l04Word_any (s : ByteArray) (m : Nat) (w : World) (hs : s.size ≤ maxLen) :
    Calls Tryd.prog 58 #[.string s, .int .i64 (m : Int)] w fun e w' => e = .returned (.bool (wordB s m)) ∧ w' = w := by
  unfold maxLen at hs
  by_cases hm : s.size ≤ m
  · go_enter Tryd.func58, Tryd.ntmps58
    go_wp2
    go_loop [5] (fun i => ∃ k : Nat, k ≤ s.size ∧ i = .int .i64 k ∧ Hid (okTo s k = true)) (fun i => s.size - (intOf i).toNat)
    case atStart => exact ⟨0, Nat.zero_le _, rfl, okTo_zero s⟩
    case round =>
      obtain ⟨k, hk, rfl, hok⟩ := hrel
      by_cases hlt : k < s.size
      · have hsu := okTo_succ s k hlt
        rw [hok.out, Bool.true_and] at hsu
        have hno := okTo_no (s := s) (k := k) hlt
        have hx : s[k].toNat ≤ 255 := by have := s[k].toNat_lt; omega
        obtain ⟨x, ex⟩ : ∃ x : Nat, s[k].toNat = x := ⟨_, rfl⟩
        rw [ex] at hsu hno hx
        have OKR : okN x = true → Hid (okTo s (k + 1) = true) := fun h => by rw [h] at hsu; exact hsu
        have NOR : okN x = false → Hid (wordB s m = false) := fun h => by unfold Hid wordB; rw [hno h, Bool.and_false]
        have O1 := Lib.hid OKR
        have O2 := Lib.hid NOR
        clear hsu hno OKR NOR
        by_cases hlet : 65 ≤ x ∧ x ≤ 90
        · have HS := O1.out (by unfold okN letterN; simp; omega)
          obtain ⟨l1, l2⟩ := hlet
          have q0 : decide ((x : Int) < 65) = false := by simp; omega
          have q1 : decide (90 < (x : Int)) = false := by simp; omega
          go_wp2
          go_round
          case rel => exact ⟨k + 1, by omega, by go_num, HS⟩
          case measure => simp [intOf]; omega
        · have hc : x < 65 ∨ 90 < x := by omega
          by_cases h4 : x = 43 ∨ x = 45 ∨ x = 91 ∨ x = 93
          · have HS := O1.out (by unfold okN letterN; simp; omega)
            clear hlet
            rcases h4 with rfl | rfl | rfl | rfl
            all_goals
              go_wp2
              go_round
              case rel => exact ⟨k + 1, by omega, by go_num, HS⟩
              case measure => simp [intOf]; omega
          · have HS := O2.out (by unfold okN letterN; simp; omega)
            have n1 : ((x : Int) != 43) = true := by simp; omega
            have n2 : ((x : Int) != 45) = true := by simp; omega
            have n3 : ((x : Int) != 91) = true := by simp; omega
            have n4 : ((x : Int) != 93) = true := by simp; omega
            clear hlet h4
            rcases hc with hc | hc
            · go_wp2
              go_ret
              exact ⟨ret_bool HS.out.symm, rfl⟩
            · have q0 : ¬ (x : Int) < 65 := by omega
              go_wp2
              go_ret
              exact ⟨ret_bool HS.out.symm, rfl⟩
      · obtain rfl : k = s.size := by omega
        have HS : Hid (wordB s m = true) := by unfold Hid wordB; rw [hok.out]; simp [hm]
        go_wp2
        go_ret
        exact ⟨ret_bool (by rw [HS.out]), rfl⟩
  · have HS : Hid (wordB s m = false) := by unfold Hid wordB; simp [hm]
    go_enter Tryd.func58, Tryd.ntmps58
    go_wp2
    go_loop [5] (fun i => i = .int .i64 0) (fun i => 0)
    case atStart => rfl
    case round =>
      obtain rfl := hrel
      have hpos : 0 < s.size := by omega
      go_wp2
      go_ret
      exact ⟨ret_bool (by rw [HS.out]), rfl⟩
set_option maxHeartbeats 400000 in
theorem isLetter_any (x : Nat) (w : World) (hx : x ≤ 255) :
    Calls Tryd.prog 63 #[.int .u8 (x : Int)] w fun e w' => e = .returned (.bool (letterN x)) ∧ w' = w := by
  by_cases h1 : 65 ≤ x
  · by_cases h2 : x ≤ 90
    · have HS : Hid (letterN x = true) := by unfold Hid letterN; simp; omega
      go_enter Tryd.func63, Tryd.ntmps63
      go_wp2
      go_ret
      exact ⟨ret_bool (by rw [HS.out]; simp; omega), rfl⟩
    · have HS : Hid (letterN x = false) := by unfold Hid letterN; simp; omega
      go_enter Tryd.func63, Tryd.ntmps63
      go_wp2
      go_ret
      exact ⟨ret_bool (by rw [HS.out]; simp; omega), rfl⟩
  · have HS : Hid (letterN x = false) := by unfold Hid letterN; simp; omega
    go_enter Tryd.func63, Tryd.ntmps63
    go_wp2
    go_ret
    exact ⟨ret_bool HS.out.symm, rfl⟩
theorem idx_word : ∀ x : Nat, x < 256 → (Lib.indexByte [43, 45, 91, 93] x.toUInt8 < 0 ↔ okN x = letterN x) ∧ (letterN x = true → Lib.indexByte [43, 45, 91, 93] x.toUInt8 < 0) := by decide +kernel
theorem idx_any (x : Nat) (w : World) (hx : x ≤ 255) (hl : letterN x = false) :
    Calls Tryd.prog 57 #[.string ⟨#[43, 45, 91, 93]⟩, .int .u8 (x : Int)] w fun e w' => ∃ r : Int, e = .returned (.int .i64 r) ∧ w' = w ∧ Hid (okN x = decide (0 ≤ r)) := by
  refine (Tryd.strings_IndexByte ⟨#[43, 45, 91, 93]⟩ (x : Int) w).mono ?_
  rintro e w' ⟨rfl, rfl⟩
  refine ⟨_, rfl, rfl, ?_⟩
  have h := (idx_word x (by omega)).1
  rw [hl] at h
  have e : ((x : Int)).toNat.toUInt8 = x.toUInt8 := by rw [Int.toNat_natCast]
  unfold Hid
  show okN x = decide (0 ≤ Lib.indexByte [43, 45, 91, 93] ((x : Int)).toNat.toUInt8)
  rw [e]
  generalize Lib.indexByte [43, 45, 91, 93] x.toUInt8 = r at *
  cases ho : okN x
  · have := h.2 ho
    symm; simp; omega
  · have : ¬ r < 0 := fun hr => by have := h.1 hr; rw [ho] at this; cases this
    symm; simp; omega

set_option maxRecDepth 100000 in
set_option maxHeartbeats 1000000 in
theorem IsWord_any (s : ByteArray) (w : World) (hs : s.size ≤ maxLen) :
    Calls Tryd.prog 64 #[.string s] w fun e w' => e = .returned (.bool (okTo s s.size && decide (s.size ≤ 4000))) ∧ w' = w := by
  unfold maxLen at hs
  go_enter Tryd.func64, Tryd.ntmps64
  go_wp2
  go_loop [6] (fun i => ∃ k : Nat, k ≤ s.size ∧ i = .int .i64 k ∧ Hid (okTo s k = true)) (fun i => s.size - (intOf i).toNat)
  case atStart => exact ⟨0, Nat.zero_le _, rfl, okTo_zero s⟩
  case round =>
    obtain ⟨k, hk, rfl, hok⟩ := hrel
    by_cases hlt : k < s.size
    · have hsu := okTo_succ s k hlt
      rw [hok.out, Bool.true_and] at hsu
      have hno := okTo_no (s := s) (k := k) hlt
      have hx : s[k].toNat ≤ 255 := by have := s[k].toNat_lt; omega
      obtain ⟨x, ex⟩ : ∃ x : Nat, s[k].toNat = x := ⟨_, rfl⟩
      rw [ex] at hsu hno hx
      have OKR : okN x = true → Hid (okTo s (k + 1) = true) := fun h => by rw [h] at hsu; exact hsu
      have NOR : okN x = false → Hid ((okTo s s.size && decide (s.size ≤ 4000)) = false) := fun h => by unfold Hid; rw [hno h, Bool.false_and]
      have O1 := Lib.hid OKR
      have O2 := Lib.hid NOR
      have LC := Lib.hid (fun w => isLetter_any x w hx)
      obtain ⟨l, hl⟩ : ∃ l, letterN x = l := ⟨_, rfl⟩
      rw [hl] at LC
      have HLX := Lib.hid hl
      clear hsu hno OKR NOR hl
      cases l
      · have IC := Lib.hid (fun w => idx_any x w hx HLX.out)
        go_wp2_with fail
        refine (LC.out _).mono ?_
        rintro e w5 ⟨rfl, h5⟩
        obtain rfl := h5.symm
        go_wp2_with fail
        refine (IC.out _).mono ?_
        rintro e w5 ⟨r, rfl, h5, hr⟩
        obtain rfl := h5.symm
        by_cases h0 : 0 ≤ r
        · have HS := O1.out (by rw [hr.out]; simpa using h0)
          go_wp2
          go_round
          case rel => exact ⟨k + 1, by omega, by go_num, HS⟩
          case measure => simp [intOf]; omega
        · have HS := O2.out (by rw [hr.out]; simpa using h0)
          go_wp2
          go_ret
          exact ⟨ret_bool HS.out.symm, rfl⟩
      · have HS := O1.out (by unfold okN; rw [HLX.out]; rfl)
        go_wp2_with fail
        refine (LC.out _).mono ?_
        rintro e w5 ⟨rfl, h5⟩
        obtain rfl := h5.symm
        go_wp2
        go_round
        case rel => exact ⟨k + 1, by omega, by go_num, HS⟩
        case measure => simp [intOf]; omega
    · obtain rfl : k = s.size := by omega
      go_wp2
      go_ret
      exact ⟨ret_bool (by rw [hok.out]; simp; omega), rfl⟩

set_option maxHeartbeats 400000 in
theorem isShortWord_any (s : ByteArray) (w : World) (hs : s.size ≤ maxLen) :
    Calls Tryd.prog 48 #[.string s] w fun e w' => e = .returned (.bool (wordB s 32)) ∧ w' = w := by
  have hm := hs
  unfold maxLen at hm
  by_cases h : s.size ≤ 32
  · have IW := Lib.hid (fun w => IsWord_any s w hs)
    have HS : Hid ((okTo s s.size && decide (s.size ≤ 4000)) = wordB s 32) := by unfold Hid wordB; rw [show decide (s.size ≤ 4000) = true from by simp; omega, show decide (s.size ≤ 32) = true from by simp; omega, Bool.and_true, Bool.true_and]
    rw [HS.out] at IW
    generalize wordB s 32 = q at *
    go_enter Tryd.func48, Tryd.ntmps48
    go_wp2_with fail
    refine (IW.out _).mono ?_
    rintro e w5 ⟨rfl, h5⟩
    obtain rfl := h5.symm
    go_wp2
    go_ret
    exact ⟨ret_bool (by simp), rfl⟩
  · have HS : Hid (wordB s 32 = false) := by unfold Hid wordB; rw [show decide (s.size ≤ 32) = false from by simp; omega]; rfl
    go_enter Tryd.func48, Tryd.ntmps48
    go_wp2
    go_ret
    exact ⟨ret_bool HS.out.symm, rfl⟩
/-- Whether a rule is valid. -/
def ruleB (l t : ByteArray) : Bool := decide (l.size = 1) && letterN (l.data.toList.getD 0 0).toNat && wordB t 32
theorem first_byte {l : ByteArray} (h : 0 < l.size) : (l.data.toList.getD 0 0) = l[0] := by
  rw [List.getD_eq_getElem?_getD, List.getElem?_eq_getElem (by simpa using h)]
  rfl
end Go.Proofs.YthgdikdcbkhgjaaDoor

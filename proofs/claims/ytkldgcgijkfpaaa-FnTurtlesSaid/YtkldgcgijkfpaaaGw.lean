/- Walks: words, by the program and by the reference. Conditions: none. -/
import Derived.Test.YtkldgcgijkfpaaaMem
import Derived.Test.YtkldgcgijkfpaaaShelf
import Derived.WalkSpells
import Derived.WalkLawsBesides
namespace Go.Proofs.Ytkldgcgijkfpaaa
open Go.RowKit

def letterN (x : Nat) : Bool := decide (65 ≤ x ∧ x ≤ 90)
def okN (x : Nat) : Bool := letterN x || x == 43 || x == 45 || x == 91 || x == 93
/-- Whether all of the first k bytes can stand in a word. -/
def okTo (s : ByteArray) (k : Nat) : Bool := (s.data.toList.take k).all fun b => okN b.toNat
theorem okTo_zero (s : ByteArray) : okTo s 0 = true := rfl
theorem okTo_succ (s : ByteArray) (k : Nat) (h : k < s.size) : okTo s (k + 1) = (okTo s k && okN s[k].toNat) := by
  unfold okTo
  rw [List.take_succ_eq_append_getElem (by simpa using h), List.all_append]
  simp
  rfl
theorem okTo_no {s : ByteArray} {k : Nat} (h : k < s.size) (hk : okN s[k].toNat = false) : okTo s s.size = false := by
  unfold okTo
  rw [List.take_of_length_le (by simp), List.all_eq_false]
  exact ⟨s[k], by simp [ByteArray.getElem_eq_getElem_data], by rw [hk]; simp⟩
def wordB (s : ByteArray) (m : Nat) : Bool := decide (s.size ≤ m) && okTo s s.size
theorem ret_bool {a b : Bool} (h : a = b) : Ending.returned (.bool a) = .returned (.bool b) := by rw [h]

set_option maxHeartbeats 400000 in
theorem isLetter_any (x : Nat) (w : World) (hx : x ≤ 255) :
    Calls Try.prog 81 #[.int .u8 (x : Int)] w fun e w' => e = .returned (.bool (letterN x)) ∧ w' = w := by
  by_cases h1 : 65 ≤ x
  · by_cases h2 : x ≤ 90
    · have HS : Hid (letterN x = true) := by unfold Hid letterN; simp; omega
      go_enter Try.func81, Try.ntmps81
      go_wp2
      go_ret
      exact ⟨ret_bool (by rw [HS.out]; simp; omega), rfl⟩
    · have HS : Hid (letterN x = false) := by unfold Hid letterN; simp; omega
      go_enter Try.func81, Try.ntmps81
      go_wp2
      go_ret
      exact ⟨ret_bool (by rw [HS.out]; simp; omega), rfl⟩
  · have HS : Hid (letterN x = false) := by unfold Hid letterN; simp; omega
    go_enter Try.func81, Try.ntmps81
    go_wp2
    go_ret
    exact ⟨ret_bool HS.out.symm, rfl⟩
theorem idx_word : ∀ x : Nat, x < 256 → (Lib.indexByte [43, 45, 91, 93] x.toUInt8 < 0 ↔ okN x = letterN x) ∧ (letterN x = true → Lib.indexByte [43, 45, 91, 93] x.toUInt8 < 0) := by decide +kernel
theorem idx_any (x : Nat) (w : World) (hx : x ≤ 255) (hl : letterN x = false) :
    Calls Try.prog 82 #[.string ⟨#[43, 45, 91, 93]⟩, .int .u8 (x : Int)] w fun e w' => ∃ r : Int, e = .returned (.int .i64 r) ∧ w' = w ∧ Hid (okN x = decide (0 ≤ r)) := by
  refine (Try.strings_IndexByte ⟨#[43, 45, 91, 93]⟩ (x : Int) w).mono ?_
  rintro e w' ⟨rfl, rfl⟩
  refine ⟨_, rfl, rfl, ?_⟩
  have h := (idx_word x (by omega)).1
  rw [hl] at h
  have e : ((x : Int)).toNat.toUInt8 = x.toUInt8 := by rw [Int.toNat_natCast]
  unfold Hid
  show okN x = decide (0 ≤ Lib.indexByte [43, 45, 91, 93] ((x : Int)).toNat.toUInt8)
  rw [e]
  generalize Lib.indexByte [43, 45, 91, 93] x.toUInt8 = r at *
  cases ho : okN x
  · have := h.2 ho
    symm; simp; omega
  · have : ¬ r < 0 := fun hr => by have := h.1 hr; rw [ho] at this; cases this
    symm; simp; omega

set_option maxRecDepth 100000 in
set_option maxHeartbeats 1000000 in
theorem IsWord_any (s : ByteArray) (w : World) (hs : s.size ≤ maxLen) :
    Calls Try.prog 63 #[.string s] w fun e w' => e = .returned (.bool (okTo s s.size && decide (s.size ≤ 4000))) ∧ w' = w := by
  unfold maxLen at hs
  go_enter Try.func63, Try.ntmps63
  go_wp2
  go_loop [6] (fun i => ∃ k : Nat, k ≤ s.size ∧ i = .int .i64 k ∧ Hid (okTo s k = true)) (fun i => s.size - (intOf i).toNat)
  case atStart => exact ⟨0, Nat.zero_le _, rfl, okTo_zero s⟩
  case round =>
    obtain ⟨k, hk, rfl, hok⟩ := hrel
    by_cases hlt : k < s.size
    · have hsu := okTo_succ s k hlt
      rw [hok.out, Bool.true_and] at hsu
      have hno := okTo_no (s := s) (k := k) hlt
      have hx : s[k].toNat ≤ 255 := by have := s[k].toNat_lt; omega
      obtain ⟨x, ex⟩ : ∃ x : Nat, s[k].toNat = x := ⟨_, rfl⟩
      rw [ex] at hsu hno hx
      have OKR : okN x = true → Hid (okTo s (k + 1) = true) := fun h => by rw [h] at hsu; exact hsu
      have NOR : okN x = false → Hid ((okTo s s.size && decide (s.size ≤ 4000)) = false) := fun h => by unfold Hid; rw [hno h, Bool.false_and]
      have O1 := Lib.hid OKR
      have O2 := Lib.hid NOR
      have LC := Lib.hid (fun w => isLetter_any x w hx)
      obtain ⟨l, hl⟩ : ∃ l, letterN x = l := ⟨_, rfl⟩
      rw [hl] at LC
      have HLX := Lib.hid hl
      clear hsu hno OKR NOR hl
      cases l
      · have IC := Lib.hid (fun w => idx_any x w hx HLX.out)
        go_wp2_with fail
        refine (LC.out _).mono ?_
        rintro e w5 ⟨rfl, h5⟩
        obtain rfl := h5.symm
        go_wp2_with fail
        refine (IC.out _).mono ?_
        rintro e w5 ⟨r, rfl, h5, hr⟩
        obtain rfl := h5.symm
        by_cases h0 : 0 ≤ r
        · have HS := O1.out (by rw [hr.out]; simpa using h0)
          go_wp2
          go_round
          case rel => exact ⟨k + 1, by omega, by go_num, HS⟩
          case measure => simp [intOf]; omega
        · have HS := O2.out (by rw [hr.out]; simpa using h0)
          go_wp2
          go_ret
          exact ⟨ret_bool HS.out.symm, rfl⟩
      · have HS := O1.out (by unfold okN; rw [HLX.out]; rfl)
        go_wp2_with fail
        refine (LC.out _).mono ?_
        rintro e w5 ⟨rfl, h5⟩
        obtain rfl := h5.symm
        go_wp2
        go_round
        case rel => exact ⟨k + 1, by omega, by go_num, HS⟩
        case measure => simp [intOf]; omega
    · obtain rfl : k = s.size := by omega
      go_wp2
      go_ret
      exact ⟨ret_bool (by rw [hok.out]; simp; omega), rfl⟩

/-- Whether a rule is valid. -/
def ruleB (l t : ByteArray) : Bool := decide (l.size = 1) && letterN (l.data.toList.getD 0 0).toNat && wordB t 32
theorem first_byte {l : ByteArray} (h : 0 < l.size) : (l.data.toList.getD 0 0) = l[0] := by
  rw [List.getD_eq_getElem?_getD, List.getElem?_eq_getElem (by simpa using h)]
  rfl
end Go.Proofs.Ytkldgcgijkfpaaa

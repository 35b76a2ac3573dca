/- Walks: slices.Index and slices.Contains at integers. Condition: none but that the slice can be read. -/
import Derived.Test.YtbkacmklgkgamaaSl
namespace Go.Proofs.Ytbkacmklgkgamaa
open Go.RowKit

set_option maxRecDepth 100000 in
theorem indexInt_any (A : Option Addr) (n c B : Nat) (x : Int) (xs : List Int) (w : World) (hn : n ≤ maxLen) (hA : Rd w B 1 A n (xs.map iv)) :
    Calls Try.prog 74 #[.slice A n c, .int .i64 x] w fun e w' => ∃ r : Int, e = .returned (.int .i64 r) ∧ w' = w ∧ (0 ≤ r ↔ x ∈ xs) := by
  have hl : xs.length = n := by have := hA.len; simpa using this
  have HA := Lib.hid hA
  have HL := Lib.hid hl
  clear hA hl
  unfold maxLen at hn
  go_enter Try.func74, Try.ntmps74
  go_wp2
  go_loopw [8] (fun si wr => ∃ k : Nat, k ≤ n ∧ si = .int .i64 k ∧ wr = w ∧ Hid (x ∉ xs.take k)) (fun i _ => n - (intOf i).toNat)
  case atStart => exact ⟨0, Nat.zero_le _, rfl, rfl, by simp [Hid]⟩
  case round =>
    obtain ⟨k, hk, rfl, hw, hx⟩ := hrel
    obtain rfl := hw.symm
    by_cases hlt : k < n
    · obtain ⟨b, off, rfl, hbb, hc⟩ := HA.out.2 (by omega)
      have hkx : k < xs.length := by rw [HL.out]; exact hlt
      obtain ⟨y, ey⟩ : ∃ y, xs[k] = y := ⟨_, rfl⟩
      have cY : w.cell? ⟨b, off + k, none⟩ = some (.int .i64 y) := by
        refine hc k _ ?_
        rw [List.getElem?_map, List.getElem?_eq_getElem hkx, ey]; rfl
      have EY := Lib.hid ey
      clear hc ey
      by_cases hxy : x = y
      · have M : Hid (x ∈ xs) := by rw [hxy, ← EY.out]; exact List.getElem_mem hkx
        obtain rfl := hxy
        go_wp2
        go_ret
        exact ⟨k, rfl, by trivial, ⟨fun _ => M.out, fun _ => by omega⟩⟩
      · have M : Hid (x ∉ xs.take (k + 1)) := by
          rw [List.take_add_one, List.getElem?_eq_getElem hkx, EY.out]
          intro h
          simp at h
          rcases h with h | h
          · exact hx.out h
          · exact hxy h
        go_wp2
        go_roundw
        case rel => exact ⟨k + 1, by omega, by go_num, by trivial, M⟩
        case measure => simp [intOf]; omega
    · obtain rfl : k = n := by omega
      go_wp2
      go_ret
      refine ⟨-1, rfl, by trivial, ⟨fun h => by omega, fun h => ?_⟩⟩
      have h1 := hx.out
      rw [← HL.out, List.take_length] at h1
      exact absurd h h1

theorem containsInt_any (A : Option Addr) (n c B : Nat) (x : Int) (xs : List Int) (w : World) (hn : n ≤ maxLen) (hA : Rd w B 1 A n (xs.map iv)) :
    Calls Try.prog 59 #[.slice A n c, .int .i64 x] w fun e w' => e = .returned (.bool (decide (x ∈ xs))) ∧ w' = w := by
  have HA := Lib.hid hA
  clear hA
  go_enter Try.func59, Try.ntmps59
  go_wp2_with fail
  refine (indexInt_any A n c B x xs w hn HA.out).mono ?_
  rintro e w5 ⟨r, rfl, h5, hr⟩
  obtain rfl := h5.symm
  have HR := Lib.hid hr
  clear hr
  go_wp2
  go_ret
  exact ⟨by simp [HR.out], rfl⟩
end Go.Proofs.Ytbkacmklgkgamaa

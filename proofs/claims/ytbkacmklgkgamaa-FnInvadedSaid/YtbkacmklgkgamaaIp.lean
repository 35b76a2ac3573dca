/- Walks: slices.IndexFunc at integers, for the program's closures. Condition: the closure answers p for each element, and only draws. -/
import Derived.Test.YtbkacmklgkgamaaSl
import Derived.Deep.Draws
namespace Go.Proofs.Ytbkacmklgkgamaa
open Go.RowKit


set_option maxRecDepth 100000 in
/-- The first element that the closure takes. -/
theorem indexFuncTouch_any (A : Option Addr) (n c B : Nat) (xs : List Int) (p1 : Addr) (p : Int → Bool) (w : World) (hn : n ≤ maxLen) (hB : B ≤ w.heap.size) (hA : Rd w B 1 A n (xs.map iv))
    (hp : ∀ m x, x ∈ xs → Calls Try.prog 56 #[.int .i64 x, .pointer (some p1)] (w.drewN m) fun e w' => e = .returned (.bool (p x)) ∧ ∃ m', w' = w.drewN m') :
    Calls Try.prog 68 #[.slice A n c, .func (.func 56) #[] #[.pointer (some p1)]] w fun e w' => (∃ m', w' = w.drewN m') ∧
      ((∃ (k : Nat) (x : Int), k < n ∧ e = .returned (.int .i64 k) ∧ xs[k]? = some x ∧ p x = true ∧ ∀ y ∈ xs.take k, p y = false) ∨ (e = .returned (.int .i64 (-1)) ∧ ∀ y ∈ xs, p y = false)) := by
  have hl : xs.length = n := by have := hA.len; simpa using this
  have HA := Lib.hid hA
  have HL := Lib.hid hl
  have HPP := Lib.hid hp
  clear hA hl hp
  unfold maxLen at hn
  go_enter Try.func68, Try.ntmps68
  go_wp2
  go_loopw [8] (fun si wr => ∃ k m : Nat, k ≤ n ∧ si = .int .i64 k ∧ wr = w.drewN m ∧ Hid (∀ y ∈ xs.take k, p y = false)) (fun i _ => n - (intOf i).toNat)
  case atStart => exact ⟨0, 0, Nat.zero_le _, rfl, rfl, by simp [Hid]⟩
  case round =>
    obtain ⟨k, m, hk, rfl, hw, hx⟩ := hrel
    have HW := Lib.hid hw
    by_cases hlt : k < n
    · obtain ⟨b, off, rfl, hbb, hc⟩ := HA.out.2 (by omega)
      have hkx : k < xs.length := by rw [HL.out]; exact hlt
      obtain ⟨y, ey⟩ : ∃ y, xs[k] = y := ⟨_, rfl⟩
      have hyx : y ∈ xs := ey ▸ List.getElem_mem hkx
      have cY : wr.cell? ⟨b, off + k, none⟩ = some (.int .i64 y) := by
        rw [hw]
        refine hc k _ ?_
        rw [List.getElem?_map, List.getElem?_eq_getElem hkx, ey]; rfl
      have EY : Hid (xs[k]? = some y) := by rw [← ey]; exact List.getElem?_eq_getElem hkx
      have PY := Lib.hid (HPP.out m y hyx)
      rw [← hw] at PY
      obtain ⟨q, hq⟩ : ∃ q, p y = q := ⟨_, rfl⟩
      have HQ := Lib.hid hq
      rw [hq] at PY
      clear hc ey hq hw hyx
      cases q
      · have M : Hid (∀ z ∈ xs.take (k + 1), p z = false) := by
          rw [List.take_add_one, EY.out]
          intro z hz
          simp at hz
          rcases hz with h | rfl
          · exact hx.out z h
          · exact HQ.out
        go_wp2_with (go_at_call 56; refine PY.out.mono ?_; rintro e w5 ⟨rfl, m5, h5⟩)
        go_roundw
        case rel => exact ⟨k + 1, m5, by omega, by go_num, rfl, M⟩
        case measure => simp [intOf]; omega
      · go_wp2_with (go_at_call 56; refine PY.out.mono ?_; rintro e w5 ⟨rfl, m5, h5⟩)
        go_ret
        exact ⟨⟨m5, rfl⟩, .inl ⟨k, y, hlt, rfl, EY.out, HQ.out, hx.out⟩⟩
    · obtain rfl : k = n := by omega
      clear hw
      go_wp2
      go_ret
      refine ⟨⟨m, HW.out⟩, .inr ⟨rfl, fun y hy => hx.out y ?_⟩⟩
      rw [← HL.out, List.take_length]
      exact hy

end Go.Proofs.Ytbkacmklgkgamaa

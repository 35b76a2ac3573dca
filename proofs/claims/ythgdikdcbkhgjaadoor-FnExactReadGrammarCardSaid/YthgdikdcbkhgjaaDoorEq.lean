/- Walks: what the laws' own comparing functions give on equal data. -/
import Derived.Test.YthgdikdcbkhgjaaDoorRows
import Derived.Test.YthgdikdcbkhgjaaDoorMem
import Derived.Test.YthgdikdcbkhgjaaDoorFl
import Derived.WalkSpells
import Derived.Handy
import Derived.StillTailTactics
namespace Go.Proofs.YthgdikdcbkhgjaaDoor
open Go.RowKit

set_option maxRecDepth 100000 in
set_option maxHeartbeats 400000 in
theorem eqRule_same (a b : ByteArray) (w : World) :
    Calls Tryd.prog 50 #[.agg #[.string a, .string b], .agg #[.string a, .string b]] w fun e w' => e = .returned (.bool true) ∧ Below w.heap.size w w' := by
  go_enter Tryd.func50, Tryd.ntmps50
  have h1 : (!a.toList == a.toList) = false := by simp
  have h2 : (!b.toList == b.toList) = false := by simp
  go_wp2
  go_ret
  exact ⟨rfl, by go_grown⟩

set_option maxRecDepth 100000 in
set_option maxHeartbeats 400000 in
theorem eqRuleS_same (A A' : Option Addr) (n c c' : Nat) (xs : List Value) (w : World) (hn : n ≤ maxLen) (hs : ∀ v ∈ xs, ∃ s, v = .string s)
    (hA : Rd w w.heap.size 2 A n xs) (hA' : Rd w w.heap.size 2 A' n xs) :
    Calls Tryd.prog 28 #[.slice A n c, .slice A' n c'] w fun e w' => e = .returned (.bool true) ∧ Below w.heap.size w w' := by
  unfold maxLen at hn
  go_enter Tryd.func28, Tryd.ntmps28
  go_wp2
  go_loopw [5] (fun i wr => ∃ k : Nat, k ≤ n ∧ i = .int .i64 k ∧ Below w.heap.size w wr) (fun i _ => n - (intOf i).toNat)
  case atStart => exact ⟨0, Nat.zero_le _, rfl, Below.refl _ _⟩
  case round =>
    obtain ⟨k, hk, rfl, hb⟩ := hrel
    by_cases hlt : k < n
    · obtain ⟨b, off, rfl, hbb, hc⟩ := hA.2 (by omega)
      obtain ⟨b', off', rfl, hbb', hc'⟩ := hA'.2 (by omega)
      obtain ⟨s, es⟩ : ∃ s, xs[k * 2]? = some (.string s) := by
        have hl : k * 2 < xs.length := by rw [hA.1]; omega
        obtain ⟨s, e⟩ := hs _ (List.getElem_mem hl)
        exact ⟨s, by rw [List.getElem?_eq_getElem hl, e]⟩
      obtain ⟨t, et⟩ : ∃ s, xs[k * 2 + 1]? = some (.string s) := by
        have hl : k * 2 + 1 < xs.length := by rw [hA.1]; omega
        obtain ⟨s, e⟩ := hs _ (List.getElem_mem hl)
        exact ⟨s, by rw [List.getElem?_eq_getElem hl, e]⟩
      have c1 : wr.cell? ⟨b, off + k * 2, none⟩ = some (.string s) := (hb.cell hbb).trans (hc _ _ es)
      have c2 : wr.cell? ⟨b, off + k * 2 + 1, none⟩ = some (.string t) := (hb.cell hbb).trans (hc _ _ et)
      have c3 : wr.cell? ⟨b', off' + k * 2, none⟩ = some (.string s) := (hb.cell hbb').trans (hc' _ _ es)
      have c4 : wr.cell? ⟨b', off' + k * 2 + 1, none⟩ = some (.string t) := (hb.cell hbb').trans (hc' _ _ et)
      clear hc hc' es et
      have Hb := Lib.hid hb
      go_wp2
      go_still_tail 8, (by kernel_rfl)
      go_wp2_with (go_at_call 50; refine (eqRule_same _ _ _).mono ?_; rintro e w1 ⟨rfl, hb1⟩)
      go_roundw
      case rel => exact ⟨k + 1, by omega, by go_num, Hb.out.trans ((Below.refl _ _).drew.trans (hb1.mono Hb.out.size))⟩
      case measure => simp [intOf]; omega
    · go_wp2
      go_ret
      exact ⟨rfl, hb⟩
end Go.Proofs.YthgdikdcbkhgjaaDoor

/- Walks: the bytes' lengths and numbers. Conditions: at most 2^20 bytes. -/
import Derived.Test.YtoibgpmpngccjaaU8
namespace Go.Proofs.Ytoibgpmpngccjaa
open Go.RowKit

private theorem ret_bool {a b : Bool} (h : a = b) : Ending.returned (.bool a) = .returned (.bool b) := by rw [h]
set_option maxRecDepth 100000 in
theorem b10Long_any (A A' : Option Addr) (n c n' c' : Nat) (w : World) (hn : n ≤ maxLen) (hn' : n' ≤ maxLen) :
    Calls Try.prog 4 #[.slice A n c, .slice A' n' c'] w fun e w' => e = .returned (.bool (decide (1048576 < n) || decide (1048576 < n'))) ∧ w' = w := by
  unfold maxLen at hn hn'
  by_cases h1 : 1048576 < n
  · go_enter Try.func4, Try.ntmps4
    go_wp2
    go_ret
    exact ⟨ret_bool (by simp [h1]), rfl⟩
  · by_cases h2 : 1048576 < n'
    · go_enter Try.func4, Try.ntmps4
      go_wp2
      go_ret
      exact ⟨ret_bool (by rw [Bool.eq_iff_iff]; simp; omega), rfl⟩
    · go_enter Try.func4, Try.ntmps4
      go_wp2
      go_ret
      exact ⟨ret_bool (by rw [Bool.eq_iff_iff]; simp; omega), rfl⟩
set_option maxRecDepth 100000 in
set_option maxHeartbeats 1000000 in
theorem b10At_val (A : Option Addr) (n c i k : Nat) (bs : List Nat) (hl : bs.length = n) (hn : n ≤ 1048576) (hi : i ≤ 1000) (hk : 2 ≤ k) (hk2 : k ≤ 256) (hb : ∀ x ∈ bs, x < 256) : ∃ y : Nat, y < k ∧ ∀ (B : Nat) (w : World), Rd w B 1 A n (bs.map u8v) →
    Calls Try.prog 8 #[.slice A n c, .int .i64 (i : Int), .int .i64 (k : Int)] w fun e w' => e = .returned (.int .i64 (y : Int)) ∧ w' = w := by
  have hki : decide ((k : Int) ≤ 1) = false := by simp; omega
  by_cases h : i < n
  · obtain ⟨x, hx⟩ : ∃ x, bs[i]? = some x := ⟨_, List.getElem?_eq_getElem (by omega)⟩
    have hx256 := hb x (List.mem_of_getElem? hx)
    have hm : (x : Int) % (k : Int) = ((x % k : Nat) : Int) := by simp
    have hmk : x % k < k := Nat.mod_lt _ (by omega)
    obtain ⟨y, ey⟩ : ∃ y, x % k = y := ⟨_, rfl⟩
    rw [ey] at hm hmk
    refine ⟨y, hmk, fun B w hA => ?_⟩
    obtain ⟨b, off, rfl, _, hc⟩ := hA.2 (by omega)
    have cx : w.cell? ⟨b, off + i, none⟩ = some (.int .u8 (x : Int)) := hc i _ (by rw [List.getElem?_map, hx]; rfl)
    clear hc hx ey hb hA hmk hl
    go_enter Try.func8, Try.ntmps8
    go_wp2
    go_ret
    exact ⟨ret_i hm, rfl⟩
  · have hm : ((i : Int) * 37 + 11) % (k : Int) = (((i * 37 + 11) % k : Nat) : Int) := by simp
    have hmk : (i * 37 + 11) % k < k := Nat.mod_lt _ (by omega)
    obtain ⟨y, ey⟩ : ∃ y, (i * 37 + 11) % k = y := ⟨_, rfl⟩
    rw [ey] at hm hmk
    refine ⟨y, hmk, fun B w hA => ?_⟩
    clear ey hb hA hmk hl
    go_enter Try.func8, Try.ntmps8
    go_wp2
    go_ret
    exact ⟨ret_i hm, rfl⟩
set_option maxRecDepth 100000 in
set_option maxHeartbeats 1000000 in
theorem b10At_gen (A : Option Addr) (n c i k : Nat) (bs : List Nat) (hl : bs.length = n) (hn : n ≤ 1048576) (hi : i ≤ 1000) (hk : 1 ≤ k) (hk2 : k ≤ 256) (hb : ∀ x ∈ bs, x < 256) : ∃ y : Nat, y < k ∧ ∀ (B : Nat) (w : World), Rd w B 1 A n (bs.map u8v) →
    Calls Try.prog 8 #[.slice A n c, .int .i64 (i : Int), .int .i64 (k : Int)] w fun e w' => e = .returned (.int .i64 (y : Int)) ∧ w' = w := by
  by_cases h : k = 1
  · subst h
    refine ⟨0, by omega, fun B w hA => ?_⟩
    clear hA hb hl
    go_enter Try.func8, Try.ntmps8
    go_wp2
    go_ret
    exact ⟨rfl, rfl⟩
  · exact b10At_val A n c i k bs hl hn hi (by omega) hk2 hb
end Go.Proofs.Ytoibgpmpngccjaa

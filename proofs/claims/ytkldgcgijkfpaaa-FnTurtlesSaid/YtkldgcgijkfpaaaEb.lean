/- Walks: the bytes' lengths and numbers, gaps, maps of the plane once. Conditions: finite parts of middling size. -/
import Derived.Test.YtkldgcgijkfpaaaNrm
import Derived.Test.YtkldgcgijkfpaaaMem
import Derived.Test.YtkldgcgijkfpaaaU8
import Derived.Test.YtkldgcgijkfpaaaBlk
import Derived.BigQuiet
import Derived.Deep.Quiet
import Derived.Deep.QuietTactic
namespace Go.Proofs.Ytkldgcgijkfpaaa
open Go.RowKit
open Num Quick
attribute [local go_sem] run_store_fl run_store_cx

theorem ret_bool' {a b : Bool} (h : a = b) : Ending.returned (.bool a) = .returned (.bool b) := by rw [h]
set_option maxRecDepth 100000 in
theorem r8Long_any (A A' : Option Addr) (n c n' c' : Nat) (w : World) (hn : n ≤ maxLen) (hn' : n' ≤ maxLen) :
    Calls Try.prog 5 #[.slice A n c, .slice A' n' c'] w fun e w' => e = .returned (.bool (decide (48 < n) || decide (48 < n'))) ∧ w' = w := by
  unfold maxLen at hn hn'
  by_cases h1 : 48 < n
  · go_enter Try.func5, Try.ntmps5
    go_wp2
    go_ret
    exact ⟨ret_bool' (by simp [h1]), rfl⟩
  · by_cases h2 : 48 < n'
    · go_enter Try.func5, Try.ntmps5
      go_wp2
      go_ret
      exact ⟨ret_bool' (by rw [Bool.eq_iff_iff]; simp; omega), rfl⟩
    · go_enter Try.func5, Try.ntmps5
      go_wp2
      go_ret
      exact ⟨ret_bool' (by rw [Bool.eq_iff_iff]; simp; omega), rfl⟩
theorem r8At_val (A : Option Addr) (n c i k : Nat) (bs : List Nat) (hl : bs.length = n) (hn : n ≤ 1048576) (hi : i ≤ 1000) (hk : 2 ≤ k) (hk2 : k ≤ 256) (hb : ∀ x ∈ bs, x < 256) : ∃ y : Nat, y < k ∧ ∀ (B : Nat) (w : World), Rd w B 1 A n (bs.map u8v) →
    Calls Try.prog 7 #[.slice A n c, .int .i64 (i : Int), .int .i64 (k : Int)] w fun e w' => e = .returned (.int .i64 (y : Int)) ∧ w' = w := by
  have hki : decide ((k : Int) ≤ 1) = false := by simp; omega
  by_cases h : i < n
  · obtain ⟨x, hx⟩ : ∃ x, bs[i]? = some x := ⟨_, List.getElem?_eq_getElem (by omega)⟩
    have hx256 := hb x (List.mem_of_getElem? hx)
    have hm : (x : Int) % (k : Int) = ((x % k : Nat) : Int) := by simp
    have hmk : x % k < k := Nat.mod_lt _ (by omega)
    obtain ⟨y, ey⟩ : ∃ y, x % k = y := ⟨_, rfl⟩
    rw [ey] at hm hmk
    refine ⟨y, hmk, fun B w hA => ?_⟩
    obtain ⟨b, off, rfl, _, hc⟩ := hA.2 (by omega)
    have cx : w.cell? ⟨b, off + i, none⟩ = some (.int .u8 (x : Int)) := hc i _ (by rw [List.getElem?_map, hx]; rfl)
    have hge : decide ((n : Int) ≤ (i : Int)) = false := by simp; omega
    have hge2 : decide (n ≤ i) = false := by simp; omega
    clear hc hx ey hb hA hmk hl
    go_enter Try.func7, Try.ntmps7
    go_wp2
    go_ret
    exact ⟨ret_i hm, rfl⟩
  · refine ⟨0, by omega, fun B w hA => ?_⟩
    have hge : decide ((n : Int) ≤ (i : Int)) = true := by simp; omega
    have hge2 : decide (n ≤ i) = true := by simp; omega
    clear hb hA hl
    go_enter Try.func7, Try.ntmps7
    go_wp2
    go_ret
    exact ⟨rfl, rfl⟩
/-- A finite complex number, its parts at most B. -/
def Cb (B : Rat) (z : Nat × Nat) : Prop := Fl .f32 z.1 ∧ Fl .f32 z.2 ∧ InR (Num.fv .f32 z.1) B ∧ InR (Num.fv .f32 z.2) B
theorem in_le {x A B : Rat} (h : InR x A) (hB : A ≤ B) : InR x B := by unfold InR at *; constructor <;> grind
theorem Cb.mono {A B : Rat} {z : Nat × Nat} (h : Cb A z) (hB : A ≤ B) : Cb B z := ⟨h.1, h.2.1, in_le h.2.2.1 hB, in_le h.2.2.2 hB⟩
theorem in_add {x y A B : Rat} (hx : InR x A) (hy : InR y B) : InR (x + y) (A + B) := by unfold InR at *; constructor <;> grind
theorem in_sub {x y A B : Rat} (hx : InR x A) (hy : InR y B) : InR (x - y) (A + B) := by unfold InR at *; constructor <;> grind
/-- Rounded within whole numbers. -/
theorem in_rnd {x : Rat} {w B : Nat} (h : Num.FR .f32 x w) (hx : InR x (B : Rat)) (hB : B ≤ 16777216) : InR (Num.fv .f32 w) (B : Rat) := by
  have e : ((B : Int) : Rat) = (B : Rat) := Rat.intCast_natCast B
  have e2 : ((-(B : Int) : Int) : Rat) = -(B : Rat) := by rw [Rat.intCast_neg, e]
  constructor
  · have := h.le_int (B : Int) (by omega) (by rw [e]; exact hx.1)
    rw [e] at this
    exact this
  · have := h.ge_int (-(B : Int)) (by omega) (by rw [e2]; exact hx.2)
    rw [e2] at this
    exact this
theorem small_mid {x : Rat} {B : Nat} (h : InR x (B : Rat)) (hB : B ≤ 16777216) : InR x mid := in_le h (by
  have : ((B : Nat) : Rat) ≤ ((16777216 : Nat) : Rat) := Rat.natCast_le_natCast.2 hB
  have e : ((16777216 : Nat) : Rat) ≤ mid := by decide +kernel
  exact Rat.le_trans this e)
theorem small_top {x : Rat} {B : Nat} (h : InR x (B : Rat)) (hB : B ≤ 16777216) : InR x top := in_le h (by
  have : ((B : Nat) : Rat) ≤ ((16777216 : Nat) : Rat) := Rat.natCast_le_natCast.2 hB
  have e : ((16777216 : Nat) : Rat) ≤ top := by decide +kernel
  exact Rat.le_trans this e)
theorem nat_prod (A B : Nat) : (A : Rat) * (B : Rat) = ((A * B : Nat) : Rat) := by rw [Rat.natCast_mul]
theorem nat_add (A B : Nat) : (A : Rat) + (B : Rat) = ((A + B : Nat) : Rat) := by rw [Rat.natCast_add]
/-- The product, bounded. -/
theorem mul_cb {x y : Nat × Nat} {A B : Nat} (hx : Cb A x) (hy : Cb B y) (hA : A ≤ 4000) (hB : B ≤ 1000) : ∃ z : Nat × Nat, (∀ w : World, Calls Try.prog 46 #[.complex .f32 x.1 x.2, .complex .f32 y.1 y.2] w fun e w' => e = .returned (.complex .f32 z.1 z.2) ∧ w' = w) ∧
    Num.FR .f32 (Num.fv .f32 x.1 * Num.fv .f32 y.1 - Num.fv .f32 x.2 * Num.fv .f32 y.2) z.1 ∧ Num.FR .f32 (Num.fv .f32 x.1 * Num.fv .f32 y.2 + Num.fv .f32 x.2 * Num.fv .f32 y.1) z.2 ∧ Cb ((2 * (A * B) : Nat) : Rat) z := by
  obtain ⟨u, v, h1, h2, h3⟩ := mul_num hx.1 hx.2.1 hy.1 hy.2.1 (small_mid hx.2.2.1 (by omega)) (small_mid hx.2.2.2 (by omega)) (small_mid hy.2.2.1 (by omega)) (small_mid hy.2.2.2 (by omega))
  have hAB : A * B ≤ 4000 * 1000 := Nat.mul_le_mul hA hB
  have p1 := prod_in hx.2.2.1 hy.2.2.1 Rat.natCast_nonneg
  have p2 := prod_in hx.2.2.2 hy.2.2.2 Rat.natCast_nonneg
  have p3 := prod_in hx.2.2.1 hy.2.2.2 Rat.natCast_nonneg
  have p4 := prod_in hx.2.2.2 hy.2.2.1 Rat.natCast_nonneg
  have s1 := in_sub p1 p2
  have s2 := in_add p3 p4
  have e : (A : Rat) * (B : Rat) + (A : Rat) * (B : Rat) = ((2 * (A * B) : Nat) : Rat) := by rw [nat_prod, nat_add]; congr 1; omega
  rw [e] at s1 s2
  exact ⟨(u, v), h1, h2, h3, h2.fin, h3.fin, in_rnd h2 s1 (by omega), in_rnd h3 s2 (by omega)⟩
theorem add_cb {x y : Nat × Nat} {A B : Nat} (hx : Cb A x) (hy : Cb B y) (hAB : A + B ≤ 16777216) : ∃ z : Nat × Nat, (∀ w : World, Calls Try.prog 41 #[.complex .f32 x.1 x.2, .complex .f32 y.1 y.2] w fun e w' => e = .returned (.complex .f32 z.1 z.2) ∧ w' = w) ∧
    Num.FR .f32 (Num.fv .f32 x.1 + Num.fv .f32 y.1) z.1 ∧ Num.FR .f32 (Num.fv .f32 x.2 + Num.fv .f32 y.2) z.2 ∧ Cb ((A + B : Nat) : Rat) z := by
  have s1 := in_add hx.2.2.1 hy.2.2.1
  have s2 := in_add hx.2.2.2 hy.2.2.2
  rw [nat_add] at s1 s2
  obtain ⟨u, v, h1, h2, h3⟩ := add_num hx.1 hx.2.1 hy.1 hy.2.1 (small_top s1 hAB) (small_top s2 hAB)
  exact ⟨(u, v), h1, h2, h3, h2.fin, h3.fin, in_rnd h2 s1 hAB, in_rnd h3 s2 hAB⟩
end Go.Proofs.Ytkldgcgijkfpaaa

/- Walks: the laws' own functions on fields. -/
import Derived.Test.YtlklpfjcnbkhlaaSl
namespace Go.Proofs.Ytlklpfjcnbkhlaa
open Go.RowKit

/-- A field as a value. -/
def fieldV (wd hi : Int) (A : Option Addr) (n c : Nat) : Value := .agg #[.int .i64 wd, .int .i64 hi, .slice A n c]

set_option maxHeartbeats 400000 in
theorem szBoolS_any (A : Option Addr) (n c : Nat) (l : Int) (w : World) (hn : n ≤ maxLen) (h0 : 0 ≤ l) (h1 : l ≤ 1048576) :
    Calls Try.prog 45 #[.slice A n c, .int .i64 l] w fun e w' => e = .returned (.int .i64 (if l - n < 0 then -1 else l - n)) ∧ w' = w := by
  unfold maxLen at hn
  by_cases h : l - n < 0
  · rw [if_pos h]
    go_enter Try.func45, Try.ntmps45
    go_wp2
    go_ret
    exact ⟨rfl, rfl⟩
  · rw [if_neg h]
    go_enter Try.func45, Try.ntmps45
    go_wp2
    go_ret
    exact ⟨rfl, rfl⟩

set_option maxHeartbeats 400000 in
theorem szField_any (wd hi : Int) (A : Option Addr) (n c : Nat) (l : Int) (w : World) (hn : n ≤ maxLen) (h0 : 0 ≤ l) (h1 : l ≤ 1048576) :
    Calls Try.prog 34 #[.agg #[.int .i64 wd, .int .i64 hi, .slice A n c], .int .i64 l] w fun e w' => e = .returned (.int .i64 (if l - n < 0 then -1 else l - n)) ∧ Below w.heap.size w w' := by
  by_cases h : l - n < 0
  all_goals
    have hh := Lib.hid h
    clear h
    go_enter Try.func34, Try.ntmps34
    go_wp2_with fail
    refine (szBoolS_any A n c l _ hn h0 h1).mono ?_
    rintro e w1 ⟨rfl, rfl⟩
    have h := hh.out
    first | rw [if_pos (by omega)] | rw [if_neg (by omega)]
    go_wp2
    go_ret
    exact ⟨rfl, by go_grown⟩

set_option maxRecDepth 100000 in
set_option maxHeartbeats 400000 in
theorem toField_any (wd hi : Int) (A : Option Addr) (n c : Nat) (xs : List Bool) (w : World) (hn : n ≤ 1048576) (hA : Rd w w.heap.size 1 A n (xs.map bv)) :
    Calls Try.prog 39 #[.agg #[.int .i64 wd, .int .i64 hi, .slice A n c]] w fun e w' => ∃ A', e = .returned (fieldV wd hi A' n n) ∧ w'.ownsRow w.heap.size 4 1 (.slice A' n n) n (xs.map bv) ∧ Below w.heap.size w w' := by
  have hb0 : ∀ o o' o'', Below w.heap.size w (((w.alloc o).alloc o').alloc o'') := fun o o' o'' => (((Below.refl _ _).alloc (Nat.le_refl _) _).alloc (by simp) _).alloc (by simp; omega) _
  have H0 := Lib.hid hb0
  clear hb0
  go_enter Try.func39, Try.ntmps39
  go_wp2_with fail
  refine (toBoolS_any A n c xs _ hn ((hA.below (H0.out _ _ _)).more (by simp; omega))).mono ?_
  rintro e w1 ⟨A', rfl, ho, hb1⟩
  have ka : Blk w1 (w.heap.size + 1) 32 #[.int .i64 0, .int .i64 0, .slice none 0 0] := Blk.below ((Blk.at_ _ _ _ (by simp)).alloc _) hb1 (by simp)
  have kb : Blk w1 (w.heap.size + 1 + 1) 32 #[.int .i64 wd, .int .i64 hi, .slice none 0 0] := Blk.below (Blk.at_ _ _ _ (by simp)) hb1 (by simp)
  have hz1 := hb1.size
  simp only [World.size_alloc] at hz1
  have W1 := Lib.hid ((H0.out _ _ _).trans (hb1.mono (by simp; omega)))
  have HO := Lib.hid ho
  clear ho hb1
  go_wp2_with (first
    | (refine wpList_store_blk rfl _ _ _ rfl (w.heap.size + 1 + 1) 2 rfl _ rfl [.slice A' n n] rfl 32 _ #[.int .i64 wd, .int .i64 hi, .slice A' n n] kb (by kernel_rfl) (by simp) (by simp [Value.oneCell']) rfl ?_; intro w2 k2 g2
       have ka2 := ka.grown g2 (by simp))
    | (refine wpList_load_blk rfl _ _ rfl (w.heap.size + 1 + 1) 0 rfl 32 _ k2 [.int .i64 wd, .int .i64 hi, .slice A' n n] rfl _ Try.underlying32 rfl (by kernel_rfl) ?_)
    | (refine wpList_store_blk rfl _ _ _ rfl (w.heap.size + 1) 0 rfl _ rfl [.int .i64 wd, .int .i64 hi, .slice A' n n] rfl 32 _ #[.int .i64 wd, .int .i64 hi, .slice A' n n] ka2 (by kernel_rfl) (by simp) (by simp [Value.oneCell']) rfl ?_; intro w3 k3 g3)
    | fail)
  refine bodyPost_ret (results_cell_row rfl _ w3 (w.heap.size + 1) 32 _ (0, 0) _ rfl k3 Try.underlying32 rfl (by kernel_rfl)) rfl ?_
  have hz2 := g2.size
  exact ⟨A', rfl, own_base (own_grown (own_grown HO.out g2 (by simp)) g3 (by simp)) (by simp; omega), (W1.out.grown g2 (by omega) (by simp; omega)).grown g3 (by omega) (by simp)⟩

set_option maxRecDepth 100000 in
set_option maxHeartbeats 400000 in
theorem eqField_same (wd hi : Int) (A A' : Option Addr) (n c c' : Nat) (xs : List Bool) (w : World) (hn : n ≤ maxLen)
    (hA : Rd w w.heap.size 1 A n (xs.map bv)) (hA' : Rd w w.heap.size 1 A' n (xs.map bv)) :
    Calls Try.prog 27 #[fieldV wd hi A n c, fieldV wd hi A' n c'] w fun e w' => e = .returned (.bool true) ∧ Below w.heap.size w w' := by
  have hb0 : ∀ o o', Below w.heap.size w ((w.alloc o).alloc o') := fun o o' => ((Below.refl _ _).alloc (Nat.le_refl _) _).alloc (by simp) _
  have H0 := Lib.hid hb0
  clear hb0
  unfold fieldV
  go_enter Try.func27, Try.ntmps27
  go_wp2_with fail
  refine (eqBoolS_same A A' n c c' xs _ hn ((hA.below (H0.out _ _)).more (by simp; omega)) ((hA'.below (H0.out _ _)).more (by simp; omega))).mono ?_
  rintro e w1 ⟨rfl, hb1⟩
  go_wp2
  go_ret
  exact ⟨rfl, (H0.out _ _).trans (hb1.mono (by simp; omega))⟩

theorem markField_any (wd hi : Int) (A : Option Addr) (n c k base : Nat) (xs : List Value) (w : World) (hk : k + n < 2147483648)
    (hown : w.ownsRow base 4 1 (.slice A n c) n xs) :
    Calls Try.prog 28 #[fieldV wd hi A n c, .int .i64 k] w fun e w' => e = .returned (.int .i64 ((k + n : Nat) : Int)) ∧
      w'.ownsRow base 4 1 (.slice A n c) n ((List.range n).map (mbv k)) ∧ w.grownBy w' (Value.slice A n c).ownBlock := by
  have hg0 : ∀ o, w.grownBy (w.alloc o) (Value.slice A n c).ownBlock := fun o => World.grownBy_alloc w o _
  have H0 := Lib.hid hg0
  clear hg0
  unfold fieldV
  go_enter Try.func28, Try.ntmps28
  go_wp2_with fail
  refine (markBoolS_any A n c k base xs _ hk (hown.alloc _)).mono ?_
  rintro e w1 ⟨rfl, ho1, hg1⟩
  go_wp2
  go_ret
  exact ⟨rfl, ho1, grown_trans' (H0.out _) hg1⟩

theorem heldField_any (wd hi : Int) (A : Option Addr) (n c k : Nat) (w : World) (hk : k + n < 2147483648)
    (hA : Rd w w.heap.size 1 A n ((List.range n).map (mbv k))) :
    Calls Try.prog 29 #[fieldV wd hi A n c, .int .i64 k] w fun e w' => e = .returned (.int .i64 ((k + n : Nat) : Int)) ∧ Below w.heap.size w w' := by
  have hb0 : ∀ o, Below w.heap.size w (w.alloc o) := fun o => (Below.refl _ _).alloc (Nat.le_refl _) _
  have H0 := Lib.hid hb0
  clear hb0
  unfold fieldV
  go_enter Try.func29, Try.ntmps29
  go_wp2_with fail
  refine (heldBoolS_any A n c k _ hk ((hA.below (H0.out _)).more (by simp))).mono ?_
  rintro e w1 ⟨rfl, rfl⟩
  go_wp2
  go_ret
  exact ⟨rfl, H0.out _⟩
end Go.Proofs.Ytlklpfjcnbkhlaa

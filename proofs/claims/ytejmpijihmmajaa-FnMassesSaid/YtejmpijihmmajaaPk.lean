/- Plain law (no program): drawn numbers, moves on a field, walkers that stick. Conditions: none. -/
import Derived.Test.YtejmpijihmmajaaNb
namespace Go.Proofs.Ytejmpijihmmajaa

/-- The next seed, and a number drawn. -/
def nxt (s : Nat) : Nat := (1103515245 * s + 12345) % 2147483648
def drw (s n : Nat) : Nat := nxt s / 65536 % n
theorem nxt_lt (s : Nat) : nxt s ≤ 2147483647 := by unfold nxt; omega
theorem drw_lt (s : Nat) {n : Nat} (h : 0 < n) : drw s n < n := Nat.mod_lt _ h

/-- Whether a side of the cell is full. -/
def touch (cs : List Bool) (bs : List Nat) : Bool := bs.any fun b => cs.getD b false
theorem touch_nil (cs : List Bool) : touch cs [] = false := rfl
theorem touch_snoc (cs : List Bool) (l : List Nat) (b : Nat) : touch cs (l ++ [b]) = (touch cs l || cs.getD b false) := by
  unfold touch; rw [List.any_append]; simp
theorem touch_some {cs : List Bool} {bs : List Nat} {b : Nat} (h : b ∈ bs) (hb : cs.getD b false = true) : touch cs bs = true := by
  unfold touch; exact List.any_eq_true.2 ⟨b, h, hb⟩
theorem touch_none {cs : List Bool} {bs : List Nat} (h : ∀ b ∈ bs, cs.getD b false = false) : touch cs bs = false := by
  unfold touch; rw [List.any_eq_false]; intro b hb; rw [h b hb]; simp

/-- The cell in a direction, or the cell itself. -/
def moved (W H i d : Nat) : Nat :=
  if d = 0 then (if 1 ≤ i / W then (i / W - 1) * W + i % W else i)
  else if d = 1 then (if 1 ≤ i % W then i / W * W + (i % W - 1) else i)
  else if d = 2 then (if i % W + 1 < W then i / W * W + (i % W + 1) else i)
  else (if i / W + 1 < H then (i / W + 1) * W + i % W else i)
theorem grid_lt {W H q m : Nat} (hm : m < W) (hq : q < H) : q * W + m < W * H := by
  have h1 : (q + 1) * W ≤ H * W := Nat.mul_le_mul_right W hq
  rw [Nat.succ_mul] at h1
  rw [Nat.mul_comm W H]
  omega
theorem moved_lt {W H i : Nat} (hW : 0 < W) (hi : i < W * H) (d : Nat) : moved W H i d < W * H := by
  have hm := Nat.mod_lt i hW
  have hq : i / W < H := Nat.div_lt_of_lt_mul hi
  unfold moved
  repeat' split
  all_goals first
    | exact hi
    | exact grid_lt (by omega) (by omega)

/-- The walker's way: cell and seed. -/
def walkTo (cs : List Bool) (W H : Nat) : Nat → Nat → Nat → Nat × Nat
  | 0, at_, s => (at_, s)
  | k + 1, at_, s => if touch cs (nbs W H at_) = true then (at_, s) else walkTo cs W H k (moved W H at_ (drw s 4)) (nxt s)
theorem walkTo_stop {cs : List Bool} {W H k at_ s : Nat} (h : touch cs (nbs W H at_) = true) : walkTo cs W H k at_ s = (at_, s) := by
  cases k with
  | zero => rfl
  | succ k => unfold walkTo; rw [if_pos h]
theorem walkTo_step {cs : List Bool} {W H k at_ s : Nat} (h : touch cs (nbs W H at_) = false) : walkTo cs W H (k + 1) at_ s = walkTo cs W H k (moved W H at_ (drw s 4)) (nxt s) := by
  conv => lhs; unfold walkTo
  rw [if_neg (by rw [h]; simp)]
theorem walkTo_lt {cs : List Bool} {W H : Nat} (hW : 0 < W) : ∀ k at_ s, at_ < W * H → (walkTo cs W H k at_ s).1 < W * H := by
  intro k
  induction k with
  | zero => intro at_ s h; exact h
  | succ k ih =>
    intro at_ s h
    unfold walkTo
    split
    · exact h
    · exact ih _ _ (moved_lt hW h _)
theorem walkTo_le {cs : List Bool} {W H : Nat} : ∀ k at_ s, s ≤ 2147483647 → (walkTo cs W H k at_ s).2 ≤ 2147483647 := by
  intro k
  induction k with
  | zero => intro at_ s h; exact h
  | succ k ih =>
    intro at_ s h
    unfold walkTo
    split
    · exact h
    · exact ih _ _ (nxt_lt _)

/-- One walker: the seed then, whether it has stuck, and the cells. -/
def stick (cs : List Bool) (W H most s : Nat) : Nat × Bool × List Bool :=
  if cs.getD (drw s (W * H)) false = true then (nxt s, false, cs)
  else if touch cs (nbs W H (walkTo cs W H most (drw s (W * H)) (nxt s)).1) = true then
    ((walkTo cs W H most (drw s (W * H)) (nxt s)).2, true, cs.set (walkTo cs W H most (drw s (W * H)) (nxt s)).1 true)
  else ((walkTo cs W H most (drw s (W * H)) (nxt s)).2, false, cs)
theorem stick_len (cs : List Bool) (W H most s : Nat) : (stick cs W H most s).2.2.length = cs.length := by
  unfold stick; split
  · rfl
  · split <;> simp
theorem stick_le (cs : List Bool) (W H most s : Nat) : (stick cs W H most s).1 ≤ 2147483647 := by
  unfold stick; split
  · exact nxt_lt _
  · split <;> exact walkTo_le _ _ _ (nxt_lt _)
/-- Many walkers. -/
def sticks (W H most : Nat) : Nat → List Bool → Nat → Nat → List Bool × Nat × Nat
  | 0, cs, s, n => (cs, s, n)
  | k + 1, cs, s, n => sticks W H most k (stick cs W H most s).2.2 (stick cs W H most s).1 (n + (stick cs W H most s).2.1.toNat)
theorem sticks_len (W H most : Nat) : ∀ k cs s n, (sticks W H most k cs s n).1.length = cs.length := by
  intro k
  induction k with
  | zero => intro cs s n; rfl
  | succ k ih => intro cs s n; unfold sticks; rw [ih, stick_len]
end Go.Proofs.Ytejmpijihmmajaa

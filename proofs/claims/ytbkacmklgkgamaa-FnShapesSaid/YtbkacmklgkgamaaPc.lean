/- Plain law (no program): cells as runs in bytes. Conditions: none. -/
import Derived.Test.YtbkacmklgkgamaaMem
namespace Go.Proofs.Ytbkacmklgkgamaa

/-- How many cells from the head on are b. -/
def runOf (b : Bool) : List Bool → Nat
  | [] => 0
  | c :: l => if c = b then runOf b l + 1 else 0
theorem runOf_le (b : Bool) (l : List Bool) : runOf b l ≤ l.length := by
  induction l with
  | nil => exact Nat.le_refl _
  | cons c l ih =>
    unfold runOf
    split
    · simp; exact ih
    · simp
theorem runOf_at (b : Bool) : ∀ (l : List Bool) (k : Nat), k < runOf b l → l[k]? = some b := by
  intro l
  induction l with
  | nil => intro k h; simp [runOf] at h
  | cons c l ih =>
    intro k h
    unfold runOf at h
    split at h
    · rename_i e
      cases k with
      | zero => simp [e]
      | succ k => simpa using ih k (by omega)
    · omega
theorem runOf_end (b : Bool) : ∀ (l : List Bool) (c : Bool), l[runOf b l]? = some c → c ≠ b := by
  intro l
  induction l with
  | nil => intro c h; simp at h
  | cons d l ih =>
    intro c h
    unfold runOf at h
    split at h
    · exact ih c (by simpa using h)
    · rename_i e
      simp at h
      exact h ▸ e
/-- A run's bytes. -/
def emit (n : Nat) : List Nat := if n < 255 then [n] else [255, n - 255]
theorem emit_len (n : Nat) : (emit n).length ≤ 2 := by unfold emit; split <;> simp
/-- The runs of cells, from full on: f rounds. -/
def packF : Nat → List Bool → Bool → List Nat
  | 0, _, _ => []
  | f + 1, l, full => if l = [] then [] else emit (runOf full l) ++ packF f (l.drop (runOf full l)) (!full)
theorem packF_nil (f : Nat) (full : Bool) : packF f [] full = [] := by cases f <;> simp [packF]
theorem packF_step {f : Nat} {l : List Bool} {full : Bool} (h : l ≠ []) : packF (f + 1) l full = emit (runOf full l) ++ packF f (l.drop (runOf full l)) (!full) := by
  conv => lhs; unfold packF
  rw [if_neg h]
/-- How many rounds are left at most. -/
def left_ (l : List Bool) (full : Bool) : Nat := 2 * l.length + if l.head? = some (!full) then 1 else 0
theorem left_step {l : List Bool} {full : Bool} (h : l ≠ []) : left_ (l.drop (runOf full l)) (!full) + 1 ≤ left_ l full := by
  cases l with
  | nil => exact absurd rfl h
  | cons c l =>
    by_cases e : c = full
    · have h1 : 1 ≤ runOf full (c :: l) := by unfold runOf; rw [if_pos e]; omega
      have h2 := runOf_le full (c :: l)
      have h3 : ((c :: l).drop (runOf full (c :: l))).head? ≠ some (!!full) := by
        rw [List.head?_drop]
        intro h4
        have := runOf_end full (c :: l) _ h4
        simp at this
      unfold left_
      rw [if_neg h3, List.length_drop]
      omega
    · have h1 : runOf full (c :: l) = 0 := by unfold runOf; rw [if_neg e]
      have e' : c = !full := by cases c <;> cases full <;> simp_all
      unfold left_
      rw [h1, List.drop_zero]
      subst e'
      simp
def pack (l : List Bool) : List Nat := packF (2 * l.length + 1) l false
theorem left_pack (l : List Bool) : left_ l false ≤ 2 * l.length + 1 := by unfold left_; split <;> omega
theorem packF_len : ∀ (f : Nat) (l : List Bool) (full : Bool), (packF f l full).length ≤ 2 * f := by
  intro f
  induction f with
  | zero => intro l full; simp [packF]
  | succ f ih =>
    intro l full
    unfold packF
    split
    · simp
    · have := emit_len (runOf full l)
      have := ih (l.drop (runOf full l)) (!full)
      rw [List.length_append]
      omega
theorem emit_lt {n : Nat} (h : n ≤ 256) : ∀ x ∈ emit n, x < 256 := by
  unfold emit
  intro x hx
  split at hx
  · simp at hx; omega
  · simp at hx; omega
theorem packF_lt {f : Nat} : ∀ {l : List Bool} {full : Bool}, l.length ≤ 256 → ∀ x ∈ packF f l full, x < 256 := by
  induction f with
  | zero => intro l full _ x hx; simp [packF] at hx
  | succ f ih =>
    intro l full hl x hx
    unfold packF at hx
    split at hx
    · simp at hx
    · rw [List.mem_append] at hx
      rcases hx with hx | hx
      · exact emit_lt (Nat.le_trans (runOf_le full l) hl) x hx
      · exact ih (by rw [List.length_drop]; omega) x hx
end Go.Proofs.Ytbkacmklgkgamaa

/- Plain law: the way that a drawn word leads a turtle, and the same word in brackets with itself behind it. Conditions: turns of twelfths, steps of at most 2. -/
import Derived.Test.YtkldgcgijkfpaaaTue
import Derived.Test.YtkldgcgijkfpaaaTuj
namespace Go.Proofs.Ytkldgcgijkfpaaa
open Go.RowKit
open Num Quick

def stepS (t st : Nat) (b : UInt8) (Z : TS) : TS :=
  if b = 70 ∨ b = 71 then
    ⟨((floatBits .add .f32 Z.pos.1 ((floatBits .mul .f32 ((Trn.phW Z.turn).getD (0, 0)).1 st).getD 0)).getD 0, (floatBits .add .f32 Z.pos.2 ((floatBits .mul .f32 ((Trn.phW Z.turn).getD (0, 0)).2 st).getD 0)).getD 0), Z.turn, Z.dp, Z.bg ++ [Z.pos],
      Z.en ++ [((floatBits .add .f32 Z.pos.1 ((floatBits .mul .f32 ((Trn.phW Z.turn).getD (0, 0)).1 st).getD 0)).getD 0, (floatBits .add .f32 Z.pos.2 ((floatBits .mul .f32 ((Trn.phW Z.turn).getD (0, 0)).2 st).getD 0)).getD 0)]⟩
  else if b = 43 then ⟨Z.pos, (floatBits .add .f32 Z.turn t).getD 0, Z.dp, Z.bg, Z.en⟩
  else if b = 45 then ⟨Z.pos, (floatBits .sub .f32 Z.turn t).getD 0, Z.dp, Z.bg, Z.en⟩
  else Z
def runS (t st : Nat) (l : List UInt8) : Nat → TS
  | 0 => ⟨(0, 0), 0, 0, [], []⟩
  | i + 1 => stepS t st (l.getD i 88) (runS t st l i)
/-- The places of a turtle, from the first one on. -/
def plc (Z : TS) (j : Nat) : Nat × Nat := ((0, 0) :: Z.en).getD j (0, 0)
structure WInv (k : Nat) (s : Rat) (i : Nat) (Z : TS) : Prop where
  turn : Trn.At k i Z.turn
  dp : Z.dp = 0
  len : Z.bg.length = Z.en.length
  way : Way s (plc Z) Z.en.length
  pos : Z.pos = plc Z Z.en.length
  bg : ∀ j, j < Z.en.length → Z.bg.getD j (0, 0) = plc Z j
  le : Z.en.length ≤ i
theorem getD_app {α : Type} {L : List α} {x d : α} {j : Nat} (h : j < L.length) : (L ++ [x]).getD j d = L.getD j d := by
  rw [List.getD_eq_getElem?_getD, List.getElem?_append_left h, List.getD_eq_getElem?_getD]
theorem getD_last {α : Type} {L : List α} {x d : α} : (L ++ [x]).getD L.length d = x := by
  rw [List.getD_eq_getElem?_getD, List.getElem?_append_right (Nat.le_refl _)]
  simp
theorem plc_old {Z Z' : TS} {p : Nat × Nat} (h : Z'.en = Z.en ++ [p]) {j : Nat} (hj : j ≤ Z.en.length) : plc Z' j = plc Z j := by
  unfold plc
  rw [h, show (0, 0) :: (Z.en ++ [p]) = ((0, 0) :: Z.en) ++ [p] from rfl, getD_app (by simp; omega)]
theorem plc_new {Z Z' : TS} {p : Nat × Nat} (h : Z'.en = Z.en ++ [p]) : plc Z' (Z.en.length + 1) = p := by
  unfold plc
  rw [h, show (0, 0) :: (Z.en ++ [p]) = ((0, 0) :: Z.en) ++ [p] from rfl]
  exact getD_last (L := (0, 0) :: Z.en)
theorem WInv.zero {k : Nat} (hk : k < 12) (s : Rat) : WInv k s 0 ⟨(0, 0), 0, 0, [], []⟩ where
  turn := Trn.At.zero hk
  dp := rfl
  len := rfl
  way := ⟨rfl, fun j h => absurd h (Nat.not_lt_zero _)⟩
  pos := rfl
  bg := fun j h => absurd h (Nat.not_lt_zero _)
  le := Nat.le_refl _
theorem WInv.step {k i st : Nat} {s : Rat} {Z : TS} {b : UInt8} (h : WInv k s i Z) (hk : k < 12) (hi : i < 16) (hb : Ltr b) (fs : Fl .f32 st) (es : Num.fv .f32 st = s) (s0 : 0 ≤ s) (s2 : s ≤ 2) :
    TStep (Trn.turnW k) st i b Z (stepS (Trn.turnW k) st b Z) ∧ WInv k s (i + 1) (stepS (Trn.turnW k) st b Z) := by
  have hT := h.turn.mono (Nat.le_succ i)
  have hstep := h.turn.step hk hi
  rcases hb with rfl | rfl | rfl | rfl | rfl
  case inr.inr.inl => exact ⟨.other, { h with turn := hT, le := Nat.le_succ_of_le h.le }⟩
  case inr.inr.inr.inl =>
    obtain ⟨⟨y, y1, y2⟩, _⟩ := hstep
    have e : stepS (Trn.turnW k) st 43 Z = ⟨Z.pos, y, Z.dp, Z.bg, Z.en⟩ := by
      unfold stepS
      rw [if_neg (by decide), if_pos rfl, y1]
      rfl
    rw [e]
    exact ⟨.plus y1, ⟨y2, h.dp, h.len, h.way, h.pos, h.bg, Nat.le_succ_of_le h.le⟩⟩
  case inr.inr.inr.inr =>
    obtain ⟨_, y, y1, y2⟩ := hstep
    have e : stepS (Trn.turnW k) st 45 Z = ⟨Z.pos, y, Z.dp, Z.bg, Z.en⟩ := by
      unfold stepS
      rw [if_neg (by decide), if_neg (by decide), if_pos rfl, y1]
      rfl
    rw [e]
    exact ⟨.minus y1, ⟨y2, h.dp, h.len, h.way, h.pos, h.bg, Nat.le_succ_of_le h.le⟩⟩
  all_goals
    obtain ⟨a, c, hph, hu⟩ := h.turn.ph hk
    have hm16 : Z.en.length ≤ 16 := by have := h.le; omega
    have hcb := h.way.cb s0 s2 hm16 Z.en.length (Nat.le_refl _)
    rw [← h.pos] at hcb
    obtain ⟨u, v, p', u1, v1, x1, y1, M⟩ := mv_ex hu fs es s0 s2 hcb.1 hcb.2.1 hcb.2.2.1 hcb.2.2.2
  case inl =>
    have e : stepS (Trn.turnW k) st 70 Z = ⟨p', Z.turn, Z.dp, Z.bg ++ [Z.pos], Z.en ++ [p']⟩ := by
      unfold stepS
      rw [if_pos (.inl rfl), hph]
      simp only [Option.getD_some, u1, v1, x1, y1]
    rw [e]
    refine ⟨.move (.inl rfl) hph u1 v1 x1 y1, ?_⟩
    exact {
      turn := hT
      dp := h.dp
      len := by show (_ ++ [_] : List (Nat × Nat)).length = (_ ++ [_] : List (Nat × Nat)).length; rw [List.length_append, List.length_append]; exact congrArg (· + 1) h.len
      way := ⟨rfl, fun j hj => by
        have hj' : j < Z.en.length + 1 := by simpa using hj
        by_cases c : j < Z.en.length
        · rw [plc_old (Z := Z) (p := p') (j := j) rfl (by omega), plc_old (Z := Z) (p := p') (j := j + 1) rfl (by omega)]
          exact h.way.mv j c
        · obtain rfl : j = Z.en.length := by omega
          rw [plc_old (Z := Z) (p := p') rfl (Nat.le_refl _), plc_new (Z := Z) (p := p') rfl, ← h.pos]
          exact M⟩
      pos := by
        show p' = plc _ (Z.en ++ [p']).length
        rw [List.length_append]
        exact (plc_new (Z := Z) (p := p') rfl).symm
      bg := fun j hj => by
        have hj' : j < Z.en.length + 1 := by simpa using hj
        show (Z.bg ++ [Z.pos]).getD j (0, 0) = _
        by_cases c : j < Z.en.length
        · rw [getD_app (by rw [h.len]; exact c), plc_old (Z := Z) (p := p') (j := j) rfl (by omega)]
          exact h.bg j c
        · obtain rfl : j = Z.en.length := by omega
          rw [plc_old (Z := Z) (p := p') rfl (Nat.le_refl _), ← h.pos]
          have := getD_last (L := Z.bg) (x := Z.pos) (d := (0, 0))
          rwa [h.len] at this
      le := by show (_ ++ [_] : List (Nat × Nat)).length ≤ _; rw [List.length_append]; exact Nat.succ_le_succ h.le }
  case inr.inl =>
    have e : stepS (Trn.turnW k) st 71 Z = ⟨p', Z.turn, Z.dp, Z.bg ++ [Z.pos], Z.en ++ [p']⟩ := by
      unfold stepS
      rw [if_pos (.inr rfl), hph]
      simp only [Option.getD_some, u1, v1, x1, y1]
    rw [e]
    refine ⟨.move (.inr rfl) hph u1 v1 x1 y1, ?_⟩
    exact {
      turn := hT
      dp := h.dp
      len := by show (_ ++ [_] : List (Nat × Nat)).length = (_ ++ [_] : List (Nat × Nat)).length; rw [List.length_append, List.length_append]; exact congrArg (· + 1) h.len
      way := ⟨rfl, fun j hj => by
        have hj' : j < Z.en.length + 1 := by simpa using hj
        by_cases c : j < Z.en.length
        · rw [plc_old (Z := Z) (p := p') (j := j) rfl (by omega), plc_old (Z := Z) (p := p') (j := j + 1) rfl (by omega)]
          exact h.way.mv j c
        · obtain rfl : j = Z.en.length := by omega
          rw [plc_old (Z := Z) (p := p') rfl (Nat.le_refl _), plc_new (Z := Z) (p := p') rfl, ← h.pos]
          exact M⟩
      pos := by
        show p' = plc _ (Z.en ++ [p']).length
        rw [List.length_append]
        exact (plc_new (Z := Z) (p := p') rfl).symm
      bg := fun j hj => by
        have hj' : j < Z.en.length + 1 := by simpa using hj
        show (Z.bg ++ [Z.pos]).getD j (0, 0) = _
        by_cases c : j < Z.en.length
        · rw [getD_app (by rw [h.len]; exact c), plc_old (Z := Z) (p := p') (j := j) rfl (by omega)]
          exact h.bg j c
        · obtain rfl : j = Z.en.length := by omega
          rw [plc_old (Z := Z) (p := p') rfl (Nat.le_refl _), ← h.pos]
          have := getD_last (L := Z.bg) (x := Z.pos) (d := (0, 0))
          rwa [h.len] at this
      le := by show (_ ++ [_] : List (Nat × Nat)).length ≤ _; rw [List.length_append]; exact Nat.succ_le_succ h.le }
theorem byte_at (s : ByteArray) (i : Nat) (h : i < s.size) (d : UInt8) : s[i] = s.data.toList.getD i d := by
  rw [List.getD_eq_getElem?_getD, List.getElem?_eq_getElem (by simpa using h)]
  rfl
theorem run_inv {k st : Nat} {s : Rat} {x : ByteArray} (hx : Wrd x) (hk : k < 12) (fs : Fl .f32 st) (es : Num.fv .f32 st = s) (s0 : 0 ≤ s) (s2 : s ≤ 2) : ∀ i, i ≤ x.size → WInv k s i (runS (Trn.turnW k) st x.data.toList i) ∧ ∀ (h : i < x.size), TStep (Trn.turnW k) st i x[i] (runS (Trn.turnW k) st x.data.toList i) (runS (Trn.turnW k) st x.data.toList (i + 1)) := by
  have hl : ∀ i, i < x.size → Ltr (x.data.toList.getD i 88) := fun i hi => by
    rw [← byte_at x i hi]
    exact hx.2 _ (by rw [byte_at x i hi 88, List.getD_eq_getElem?_getD, List.getElem?_eq_getElem (by simpa using hi)]; exact List.getElem_mem _)
  have key : ∀ i, i ≤ x.size → WInv k s i (runS (Trn.turnW k) st x.data.toList i) := by
    intro i
    induction i with
    | zero => exact fun _ => WInv.zero hk s
    | succ i ih =>
      intro hi
      have := hx.1
      exact ((ih (by omega)).step hk (by omega) (hl i (by omega)) fs es s0 s2).2
  refine fun i hi => ⟨key i hi, fun h => ?_⟩
  have := hx.1
  have hs := ((key i hi).step hk (by omega) (hl i h) fs es s0 s2).1
  rw [byte_at x i h 88]
  exact hs
theorem run_one {k st : Nat} {s : Rat} {x : ByteArray} (hx : Wrd x) (hk : k < 12) (fs : Fl .f32 st) (es : Num.fv .f32 st = s) (s0 : 0 ≤ s) (s2 : s ≤ 2) : TRun x (Trn.turnW k) st (runS (Trn.turnW k) st x.data.toList) :=
  ⟨rfl, fun i h => (run_inv hx hk fs es s0 s2 i (Nat.le_of_lt h)).2 h, (run_inv hx hk fs es s0 s2 x.size (Nat.le_refl _)).1.dp⟩
/-- A step with more twigs ahead of it. -/
theorem TStep.lift {t st i : Nat} {b : UInt8} {Z Z' : TS} (h : TStep t st i b Z Z') (hb : Ltr b) (i' d : Nat) (B E : List (Nat × Nat)) : TStep t st i' b ⟨Z.pos, Z.turn, d, B ++ Z.bg, E ++ Z.en⟩ ⟨Z'.pos, Z'.turn, d, B ++ Z'.bg, E ++ Z'.en⟩ := by
  cases h with
  | move hb' hph hu hv h1 h2 =>
    dsimp only
    rw [← List.append_assoc, ← List.append_assoc]
    exact .move hb' hph hu hv h1 h2
  | plus h => exact .plus h
  | minus h => exact .minus h
  | push h => rcases hb with h | h | h | h | h <;> cases h
  | pop => rcases hb with h | h | h | h | h <;> cases h
  | other => exact .other
/-- The word in brackets, with itself behind it. -/
def twice (x : ByteArray) : ByteArray := ⟨#[91]⟩ ++ x ++ ⟨#[93]⟩ ++ x
def runT (n : Nat) (S : Nat → TS) (i : Nat) : TS :=
  if i = 0 then ⟨(0, 0), 0, 0, [], []⟩
  else if i ≤ n + 1 then ⟨(S (i - 1)).pos, (S (i - 1)).turn, 1, (S (i - 1)).bg, (S (i - 1)).en⟩
  else ⟨(S (i - (n + 2))).pos, (S (i - (n + 2))).turn, 0, (S n).bg ++ (S (i - (n + 2))).bg, (S n).en ++ (S (i - (n + 2))).en⟩
theorem twice_size (x : ByteArray) : (twice x).size = 2 * x.size + 2 := by
  unfold twice
  rw [ByteArray.size_append, ByteArray.size_append, ByteArray.size_append]
  show 1 + x.size + 1 + x.size = _
  omega
theorem twice_at (x : ByteArray) (i : Nat) (h : i < (twice x).size) : (i = 0 → (twice x)[i] = 91) ∧ (∀ (j : Nat) (hj : j < x.size), i = j + 1 → (twice x)[i] = x[j]) ∧ (i = x.size + 1 → (twice x)[i] = 93) ∧ (∀ (j : Nat) (hj : j < x.size), i = x.size + 2 + j → (twice x)[i] = x[j]) := by
  have hl : x.data.toList.length = x.size := by simp
  have e : (twice x).data.toList = [91] ++ x.data.toList ++ [93] ++ x.data.toList := by
    unfold twice
    rw [bytes_append, bytes_append, bytes_append]
  rw [byte_at _ i h 88, e]
  refine ⟨fun h0 => by subst h0; rfl, fun j hj hi => ?_, fun hi => ?_, fun j hj hi => ?_⟩
  · subst hi
    rw [byte_at x j hj 88, List.getD_eq_getElem?_getD, List.getD_eq_getElem?_getD, List.append_assoc, List.append_assoc, List.getElem?_append_right (by simp), List.getElem?_append_left (by simpa using hj)]
    simp
  · subst hi
    rw [List.getD_eq_getElem?_getD, List.append_assoc, List.getElem?_append_right (by simp), List.getElem?_append_left (by simp)]
    simp
  · subst hi
    rw [byte_at x j hj 88, List.getD_eq_getElem?_getD, List.getD_eq_getElem?_getD, List.getElem?_append_right (by simp)]
    congr 2
    simp
theorem run_two {t st : Nat} {x : ByteArray} {S : Nat → TS} (hx : Wrd x) (h : TRun x t st S) : TRun (twice x) t st (runT x.size S) := by
  have hL : ∀ j (hj : j < x.size), Ltr x[j] := fun j hj => hx.2 _ (by rw [byte_at x j hj 88, List.getD_eq_getElem?_getD, List.getElem?_eq_getElem (by simpa using hj)]; exact List.getElem_mem _)
  refine ⟨rfl, fun i hi => ?_, ?_⟩
  · obtain ⟨a, b, c, d⟩ := twice_at x i hi
    have hsz := twice_size x
    by_cases c0 : i = 0
    · subst c0
      rw [a rfl]
      unfold runT
      rw [if_pos rfl, if_neg (by omega), if_pos (by omega), show 0 + 1 - 1 = 0 by omega, h.zero]
      exact .push rfl
    · by_cases c1 : i ≤ x.size
      · obtain ⟨j, hj⟩ : ∃ j, i = j + 1 := ⟨i - 1, by omega⟩
        have hjx : j < x.size := by omega
        rw [b j hjx hj]
        subst hj
        unfold runT
        rw [if_neg c0, if_pos (by omega), if_neg (by omega), if_pos (by omega), show j + 1 - 1 = j by omega, show j + 1 + 1 - 1 = j + 1 by omega]
        have := (h.step j hjx).lift (hL j hjx) (j + 1) 1 [] []
        simpa using this
      · by_cases c2 : i = x.size + 1
        · rw [c c2]
          subst c2
          unfold runT
          rw [if_neg c0, if_pos (by omega), if_neg (by omega), if_neg (by omega), show x.size + 1 - 1 = x.size by omega, show x.size + 1 + 1 - (x.size + 2) = 0 by omega, h.zero]
          simp only [List.append_nil]
          exact .pop
        · obtain ⟨j, hj⟩ : ∃ j, i = x.size + 2 + j := ⟨i - (x.size + 2), by omega⟩
          have hjx : j < x.size := by omega
          rw [d j hjx hj]
          subst hj
          unfold runT
          rw [if_neg c0, if_neg (by omega), if_neg (by omega), if_neg (by omega), show x.size + 2 + j - (x.size + 2) = j by omega, show x.size + 2 + j + 1 - (x.size + 2) = j + 1 by omega]
          exact (h.step j hjx).lift (hL j hjx) _ 0 _ _
  · rw [twice_size]
    unfold runT
    rw [if_neg (by omega), if_neg (by omega)]
end Go.Proofs.Ytkldgcgijkfpaaa

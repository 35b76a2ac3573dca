/- Plain law (no program): whether full cells lead from the first row to the last; thresholds of weights by sorting and by the least one. Conditions: none. -/
import Derived.Test.YtbkacmklgkgamaaKa
import Derived.Test.YtbkacmklgkgamaaSs
import Derived.Test.YtbkacmklgkgamaaSym
import Derived.Test.YtbkacmklgkgamaaVt
import Derived.Test.YtbkacmklgkgamaaVf
namespace Go.Proofs.Ytbkacmklgkgamaa

/-- A cell of the first row and one of the last row are linked. -/
def SBp (cs : List Bool) (W N : Nat) (nb : Nat → List Nat) : Prop := ∃ a b r, a < W ∧ N - W ≤ b ∧ b < N ∧ r < N ∧ Lk cs nb r a ∧ Lk cs nb r b
section
variable {cs : List Bool} {N : Nat} {nb : Nat → List Nat}
theorem link_const {ts sz : List Int} (h : GOk cs N nb N ts sz) (hnb : ∀ j < N, ∀ b ∈ nb j, b < N) {r j : Nat} (hr : r < N) (hl : Lk cs nb r j) : ts.getD j 0 = ts.getD r 0 := by
  have := Lk.iff (cs := cs) (nb := nb) (N := N) (Pr := fun a => ts.getD a 0 = ts.getD r 0) hnb (fun a ha b hb hfa hfb => by
    have h1 := h.side a ha (h.some_ a ha ha hfa) b hb hfb
    rw [h1]) hr hl
  exact this.1 rfl
theorem spans_iff {W : Nat} {G Z : List Int} (hW : W ≤ N) (hnb : ∀ j < N, ∀ b ∈ nb j, b < N) (hsym : ∀ j < N, ∀ b ∈ nb j, j ∈ nb b) (h : Grp cs N nb N G Z) : 0 < (spansTo G W Z.length).length ↔ SBp cs W N nb := by
  have g := gok_of hnb hsym (Nat.le_refl _) h
  have hlen := g.len
  have hsp : 0 < (spansTo G W Z.length).length ↔ ∃ k, k < Z.length ∧ spanned G W k = true := by
    unfold spansTo
    rw [List.length_map, List.length_pos_iff_exists_mem]
    simp only [List.mem_filter, List.mem_range]
  rw [hsp]
  constructor
  · rintro ⟨k, hk, hs⟩
    unfold spanned at hs
    rw [Bool.and_eq_true, decide_eq_true_eq, decide_eq_true_eq] at hs
    obtain ⟨a, ha, ea⟩ := List.getElem_of_mem hs.1
    obtain ⟨b, hb, eb⟩ := List.getElem_of_mem hs.2
    rw [List.getElem_take] at ea
    rw [List.getElem_drop] at eb
    rw [List.length_take] at ha
    rw [List.length_drop] at hb
    have haW : a < W := by omega
    have e1 : G.getD a 0 = (k : Int) := by rw [getD_lt (by omega)]; exact ea
    have e2 : G.getD (G.length - W + b) 0 = (k : Int) := by rw [getD_lt (by omega)]; exact eb
    obtain ⟨r, hr, l1, l2⟩ := g.link a (by omega) (G.length - W + b) (by omega) (by omega) (by rw [e1, e2])
    exact ⟨a, G.length - W + b, r, haW, by omega, by omega, hr, l1, l2⟩
  · rintro ⟨a, b, r, haW, hb1, hb2, hr, l1, l2⟩
    have e1 := link_const g hnb hr l1
    have e2 := link_const g hnb hr l2
    have haN : a < N := by omega
    have hge := g.some_ a haN haN l1.full
    have hlt := g.hi a haN
    obtain ⟨k, ek⟩ : ∃ k : Nat, G.getD a 0 = (k : Int) := ⟨(G.getD a 0).toNat, by omega⟩
    refine ⟨k, by omega, ?_⟩
    unfold spanned
    rw [Bool.and_eq_true, decide_eq_true_eq, decide_eq_true_eq]
    constructor
    · rw [← ek, getD_lt (by omega)]
      exact List.mem_take_iff_getElem.2 ⟨a, by omega, rfl⟩
    · have : G.getD b 0 = (k : Int) := by rw [e2, ← e1]; exact ek
      rw [← this, getD_lt (by omega)]
      refine List.mem_drop_iff_getElem.2 ⟨b - (G.length - W), by omega, ?_⟩
      congr 1
      omega
/-- All cells full: one leads down. -/
theorem full_spans {W H : Nat} {cs : List Bool} (hW : 1 ≤ W) (hH : 1 ≤ H) (hc : ∀ j < W * H, cs.getD j false = true) : SBp cs W (W * H) (nbs W H) := by
  have hWH : W ≤ W * H := Nat.le_mul_of_pos_right W hH
  have key : ∀ k, k < H → Lk cs (nbs W H) 0 (k * W) := by
    intro k
    induction k with
    | zero => intro _; rw [Nat.zero_mul]; exact .refl (hc 0 (by omega))
    | succ k ih =>
      intro hk
      have h1 := ih (by omega)
      have h2 : (k + 1) * W < W * H := by
        have := Nat.mul_lt_mul_of_pos_right hk hW
        rwa [Nat.mul_comm H W] at this
      refine .step h1 ?_ (hc _ h2)
      have e : (k + 1) * W = k * W + W := Nat.succ_mul _ _
      rw [e] at h2 ⊢
      unfold nbs nb4
      rw [if_pos h2]
      simp
  have hl : (H - 1) * W + W = W * H := by
    rw [← Nat.succ_mul, Nat.mul_comm W H]
    congr 1
    omega
  exact ⟨0, (H - 1) * W, 0, by omega, by omega, by omega, by omega, .refl (hc 0 (by omega)), key (H - 1) (by omega)⟩
end
/-- The cells whose weight is at most v. -/
def cutB (xs : List Nat) (v : Int) : List Bool := xs.map fun y => decide (fval y ≤ v)
theorem cutB_len (xs : List Nat) (v : Int) : (cutB xs v).length = xs.length := by simp [cutB]
theorem cutB_take (xs : List Nat) (v : Int) (k : Nat) {x : Nat} (h : xs[k]? = some x) : cutB (xs.take (k + 1)) v = cutB (xs.take k) v ++ [decide (fval x ≤ v)] := by
  unfold cutB
  rw [List.take_add_one, h, List.map_append]
  rfl
theorem cutB_full {xs : List Nat} {k : Nat} (hmax : ∀ j < xs.length, fval (xs.getD j 0) ≤ fval (xs.getD k 0)) : ∀ j < xs.length, (cutB xs (fval (xs.getD k 0))).getD j false = true := fun j hj => by
  have h := hmax j hj
  unfold cutB
  rw [List.getD_eq_getElem?_getD, List.getElem?_map, List.getElem?_eq_getElem hj]
  rw [List.getD_eq_getElem?_getD, List.getElem?_eq_getElem hj] at h
  simpa using h
theorem max_ex : ∀ (n : Nat) (f : Nat → Int), 0 < n → ∃ k < n, ∀ j < n, f j ≤ f k := by
  intro n f
  induction n with
  | zero => intro h; omega
  | succ n ih =>
    intro _
    rcases Nat.eq_zero_or_pos n with e | e
    · subst e
      exact ⟨0, by omega, fun j hj => Int.le_of_eq (congrArg f (show j = 0 by omega))⟩
    · obtain ⟨k, hk, hm⟩ := ih e
      by_cases h : f k ≤ f n
      · refine ⟨n, by omega, fun j hj => ?_⟩
        by_cases c : j = n
        · rw [c]; exact Int.le_refl _
        · have := hm j (by omega); omega
      · refine ⟨k, by omega, fun j hj => ?_⟩
        by_cases c : j = n
        · rw [c]; omega
        · exact hm j (by omega)
/-- Some weight's cells lead down. -/
theorem some_spans {W H : Nat} {xs : List Nat} (hW : 1 ≤ W) (hH : 1 ≤ H) (hl : xs.length = W * H) : ∃ k < xs.length, SBp (cutB xs (fval (xs.getD k 0))) W (W * H) (nbs W H) := by
  obtain ⟨k, hk, hm⟩ := max_ex xs.length (fun j => fval (xs.getD j 0)) (by rw [hl]; exact Nat.mul_pos hW hH)
  exact ⟨k, hk, full_spans hW hH (fun j hj => cutB_full hm j (by omega))⟩

/-- Words with their places. -/
def tagd (xs : List Nat) : List (Nat × Nat) := (List.range xs.length).map fun i => (xs.getD i 0, i)
theorem tagd_len (xs : List Nat) : (tagd xs).length = xs.length := by simp [tagd]
theorem tagd_el (xs : List Nat) {i : Nat} (h : i < xs.length) : el (tagd xs) i = (xs.getD i 0, i) := by
  unfold el tagd
  rw [List.getD_eq_getElem?_getD, List.getElem?_map, List.getElem?_range h]
  rfl
theorem tagd_tr (xs : List Nat) : Tr (tagd xs) 0 xs.length := fun p q _ h2 h3 => by
  rw [tagd_el xs (by omega), tagd_el xs h3]; exact h2
/-- The least one, and the first of these, of those that have P (by spec's way); 'none' where there is none up to k. -/
def BestTo (xs : List Nat) (P : Int → Prop) (k : Nat) : Option Nat → Prop
  | none => ∀ i < k, ¬ P (fval (xs.getD i 0))
  | some j => j < k ∧ P (fval (xs.getD j 0)) ∧ ∀ i < k, P (fval (xs.getD i 0)) → fval (xs.getD j 0) ≤ fval (xs.getD i 0) ∧ (i < j → fval (xs.getD j 0) < fval (xs.getD i 0))
theorem BestTo.no {xs : List Nat} {P : Int → Prop} {k : Nat} {b : Option Nat} (h : BestTo xs P k b) (hn : ¬ P (fval (xs.getD k 0))) : BestTo xs P (k + 1) b := by
  cases b with
  | none => intro i hi; rcases Nat.eq_or_lt_of_le (Nat.lt_succ_iff.1 hi) with e | e
            · rw [e]; exact hn
            · exact h i e
  | some j =>
    obtain ⟨h1, h2, h3⟩ := h
    refine ⟨by omega, h2, fun i hi hp => ?_⟩
    rcases Nat.eq_or_lt_of_le (Nat.lt_succ_iff.1 hi) with e | e
    · rw [e] at hp; exact absurd hp hn
    · exact h3 i e hp
theorem BestTo.first {xs : List Nat} {P : Int → Prop} {k : Nat} (h : BestTo xs P k none) (hp : P (fval (xs.getD k 0))) : BestTo xs P (k + 1) (some k) :=
  ⟨by omega, hp, fun i hi hpi => by
    rcases Nat.eq_or_lt_of_le (Nat.lt_succ_iff.1 hi) with e | e
    · rw [e]; exact ⟨Int.le_refl _, fun h => by omega⟩
    · exact absurd hpi (h i e)⟩
theorem BestTo.better {xs : List Nat} {P : Int → Prop} {k j : Nat} (h : BestTo xs P k (some j)) (hp : P (fval (xs.getD k 0))) (hlt : fval (xs.getD k 0) < fval (xs.getD j 0)) : BestTo xs P (k + 1) (some k) := by
  obtain ⟨h1, h2, h3⟩ := h
  refine ⟨by omega, hp, fun i hi hpi => ?_⟩
  rcases Nat.eq_or_lt_of_le (Nat.lt_succ_iff.1 hi) with e | e
  · rw [e]; exact ⟨Int.le_refl _, fun h => by omega⟩
  · have := (h3 i e hpi).1
    omega
theorem BestTo.worse {xs : List Nat} {P : Int → Prop} {k j : Nat} (h : BestTo xs P k (some j)) (hge : ¬ fval (xs.getD k 0) < fval (xs.getD j 0)) : BestTo xs P (k + 1) (some j) := by
  obtain ⟨h1, h2, h3⟩ := h
  refine ⟨by omega, h2, fun i hi hpi => ?_⟩
  rcases Nat.eq_or_lt_of_le (Nat.lt_succ_iff.1 hi) with e | e
  · rw [e]; exact ⟨by omega, fun h => by omega⟩
  · exact h3 i e hpi
/-- The first in order that has P is the least one, and the first of these. -/
theorem sorted_first {xs : List Nat} {P : Int → Prop} {M : List (Nat × Nat)} {i j : Nat} (hs : Shuf 0 xs.length (tagd xs) M) (hsrt : Srt fval M 0 xs.length) (hi : i < xs.length) (hp : P (fval (el M i).1)) (hno : ∀ q < i, ¬ P (fval (el M q).1))
    (hb : BestTo xs P xs.length (some j)) : (el M i).1 = xs.getD j 0 := by
  obtain ⟨h1, h2, h3⟩ := hb
  obtain ⟨t, ht, et⟩ := hs.mem' i (by rw [tagd_len]; exact hi)
  obtain ⟨q, hq, eq⟩ := hs.mem j (by rw [tagd_len]; exact h1)
  rw [tagd_len] at ht hq
  rw [tagd_el xs ht] at et
  rw [tagd_el xs h1] at eq
  have hqi : i ≤ q := by
    rcases Nat.lt_or_ge q i with c | c
    · exact absurd (by rw [eq]; exact h2) (hno q c)
    · exact c
  rcases Nat.eq_or_lt_of_le hqi with c | c
  · subst c; rw [eq]
  · exfalso
    have hl := hsrt i q (Nat.zero_le _) c hq
    rw [← et] at hp
    obtain ⟨k1, k2⟩ := h3 t ht hp
    rw [← et, eq] at hl
    unfold lex at hl
    simp only at hl
    rcases hl with hl | ⟨hl, hlt⟩
    · omega
    · have := k2 hlt
      omega
/-- There is such a one in order. -/
theorem sorted_some {xs : List Nat} {P : Int → Prop} {M : List (Nat × Nat)} (hs : Shuf 0 xs.length (tagd xs) M) (hex : ∃ k < xs.length, P (fval (xs.getD k 0))) : ∃ q < xs.length, P (fval (el M q).1) := by
  obtain ⟨k, hk, hp⟩ := hex
  obtain ⟨q, hq, eq⟩ := hs.mem k (by rw [tagd_len]; exact hk)
  rw [tagd_len] at hq
  rw [tagd_el xs hk] at eq
  exact ⟨q, hq, by rw [eq]; exact hp⟩
end Go.Proofs.Ytbkacmklgkgamaa

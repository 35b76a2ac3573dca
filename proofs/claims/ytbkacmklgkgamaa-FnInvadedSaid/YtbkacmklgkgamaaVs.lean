/- Plain law (no program): a stable sort by exchanges. Elements have tags; the order by key and then by tag is what each part brings about. Conditions: none. -/
import Derived.Test.YtbkacmklgkgamaaRows
namespace Go.Proofs.Ytbkacmklgkgamaa

section
variable (K : Nat → Int)
/-- The element at a place: a word and its tag. -/
def el (L : List (Nat × Nat)) (i : Nat) : Nat × Nat := L.getD i (0, 0)
def lex (x y : Nat × Nat) : Prop := K x.1 < K y.1 ∨ (K x.1 = K y.1 ∧ x.2 < y.2)
theorem lex_trans {x y z : Nat × Nat} (h : lex K x y) (k : lex K y z) : lex K x z := by unfold lex at *; omega
def swp (L : List (Nat × Nat)) (i j : Nat) : List (Nat × Nat) := (L.set i (el L j)).set j (el L i)
theorem swp_len (L : List (Nat × Nat)) (i j : Nat) : (swp L i j).length = L.length := by simp [swp]
theorem el_set (L : List (Nat × Nat)) {i : Nat} (h : i < L.length) (x : Nat × Nat) (k : Nat) : el (L.set i x) k = if k = i then x else el L k := by
  unfold el
  rw [List.getD_eq_getElem?_getD, List.getElem?_set, List.getD_eq_getElem?_getD]
  by_cases e : i = k
  · subst e; simp [h]
  · rw [if_neg e, if_neg (fun h => e h.symm)]
theorem swp_el {L : List (Nat × Nat)} {i j : Nat} (hi : i < L.length) (hj : j < L.length) (k : Nat) : el (swp L i j) k = if k = j then el L i else if k = i then el L j else el L k := by
  unfold swp
  rw [el_set _ (by simpa using hj), el_set _ hi]
/-- One list out of another by exchanges within [a, b). -/
inductive Shuf (a b : Nat) (L : List (Nat × Nat)) : List (Nat × Nat) → Prop
  | refl : Shuf a b L L
  | step {M : List (Nat × Nat)} {i j : Nat} : Shuf a b L M → a ≤ i → i < b → a ≤ j → j < b → b ≤ M.length → Shuf a b L (swp M i j)
variable {K}
theorem Shuf.len {a b : Nat} {L M : List (Nat × Nat)} (h : Shuf a b L M) : M.length = L.length := by
  induction h with
  | refl => rfl
  | step _ _ _ _ _ _ ih => rw [swp_len, ih]
theorem Shuf.trans {a b : Nat} {L M N : List (Nat × Nat)} (h : Shuf a b L M) (k : Shuf a b M N) : Shuf a b L N := by
  induction k with
  | refl => exact h
  | step _ h1 h2 h3 h4 h5 ih => exact .step ih h1 h2 h3 h4 h5
theorem Shuf.mono {a b a' b' : Nat} {L M : List (Nat × Nat)} (h : Shuf a b L M) (ha : a' ≤ a) (hb : b ≤ b') (hl : b' ≤ L.length) : Shuf a' b' L M := by
  induction h with
  | refl => exact .refl
  | step k h1 h2 h3 h4 h5 ih => exact .step ih (by omega) (by omega) (by omega) (by omega) (by rw [k.len]; exact hl)
theorem Shuf.out {a b : Nat} {L M : List (Nat × Nat)} (h : Shuf a b L M) {k : Nat} (hk : k < a ∨ b ≤ k) : el M k = el L k := by
  induction h with
  | refl => rfl
  | step _ h1 h2 h3 h4 h5 ih => rw [swp_el (by omega) (by omega), if_neg (by omega), if_neg (by omega), ih]
theorem Shuf.all {a b : Nat} {L M : List (Nat × Nat)} (h : Shuf a b L M) (P : Nat × Nat → Prop) (hp : ∀ k, a ≤ k → k < b → P (el L k)) : ∀ k, a ≤ k → k < b → P (el M k) := by
  induction h with
  | refl => exact hp
  | step _ h1 h2 h3 h4 h5 ih =>
    intro k hk hk'
    rw [swp_el (by omega) (by omega)]
    split
    · exact ih _ h1 h2
    · split
      · exact ih _ h3 h4
      · exact ih _ hk hk'
theorem Shuf.mem {a b : Nat} {L M : List (Nat × Nat)} (h : Shuf a b L M) : ∀ k < L.length, ∃ j < L.length, el M j = el L k := by
  induction h with
  | refl => exact fun k hk => ⟨k, hk, rfl⟩
  | step hs h1 h2 h3 h4 h5 ih =>
    rename_i M i j
    intro k hk
    obtain ⟨q, hq, e⟩ := ih k hk
    have hl := hs.len
    refine ⟨if q = i then j else if q = j then i else q, by split <;> (try split) <;> omega, ?_⟩
    rw [swp_el (by omega) (by omega), ← e]
    by_cases c1 : q = i
    · subst c1; simp
    · rw [if_neg c1]
      by_cases c2 : q = j
      · subst c2
        rw [if_pos rfl]
        by_cases c3 : i = q
        · exact absurd c3.symm c1
        · rw [if_neg c3, if_pos rfl]
      · rw [if_neg c2, if_neg c2, if_neg c1]
theorem Shuf.mem' {a b : Nat} {L M : List (Nat × Nat)} (h : Shuf a b L M) : ∀ k < L.length, ∃ j < L.length, el L j = el M k := by
  induction h with
  | refl => exact fun k hk => ⟨k, hk, rfl⟩
  | step hs h1 h2 h3 h4 h5 ih =>
    intro k hk
    have hl := hs.len
    rw [swp_el (by omega) (by omega)]
    split
    · exact ih _ (by omega)
    · split
      · exact ih _ (by omega)
      · exact ih _ hk
variable (K) in
def Srt (L : List (Nat × Nat)) (a b : Nat) : Prop := ∀ p q, a ≤ p → p < q → q < b → lex K (el L p) (el L q)
/-- Tags of [a, m) are less than those of [m, b). -/
def Tg (L : List (Nat × Nat)) (a m b : Nat) : Prop := ∀ p q, a ≤ p → p < m → m ≤ q → q < b → (el L p).2 < (el L q).2
/-- Tags rise in [a, b). -/
def Tr (L : List (Nat × Nat)) (a b : Nat) : Prop := ∀ p q, a ≤ p → p < q → q < b → (el L p).2 < (el L q).2
theorem Srt.one (L : List (Nat × Nat)) {a b : Nat} (h : b ≤ a + 1) : Srt K L a b := fun p q _ _ _ => by omega
theorem Srt.sub {L : List (Nat × Nat)} {a b a' b' : Nat} (h : Srt K L a b) (ha : a ≤ a') (hb : b' ≤ b) : Srt K L a' b' := fun p q h1 h2 h3 => h p q (by omega) h2 (by omega)
theorem Srt.congr {L M : List (Nat × Nat)} {a b : Nat} (h : Srt K L a b) (e : ∀ k, a ≤ k → k < b → el M k = el L k) : Srt K M a b := fun p q h1 h2 h3 => by
  rw [e p h1 (by omega), e q (by omega) h3]; exact h p q h1 h2 h3
theorem Srt.key {L : List (Nat × Nat)} {a b p q : Nat} (h : Srt K L a b) (h1 : a ≤ p) (h2 : p ≤ q) (h3 : q < b) : K (el L p).1 ≤ K (el L q).1 := by
  rcases Nat.eq_or_lt_of_le h2 with e | e
  · subst e; exact Int.le_refl _
  · have := h p q h1 e h3
    unfold lex at this
    omega

/-- In the midst of an insertion: the element at j is to go left; all others of [a, i] are in order. -/
structure Ins (L : List (Nat × Nat)) (a i j : Nat) : Prop where
  ord : ∀ p q, a ≤ p → p < q → q ≤ i → q ≠ j → lex K (el L p) (el L q)
  tag : ∀ p, a ≤ p → p ≤ i → p ≠ j → (el L p).2 < (el L j).2
theorem Ins.start {L : List (Nat × Nat)} {a i : Nat} (h : Srt K L a i) (ht : ∀ p, a ≤ p → p < i → (el L p).2 < (el L i).2) : Ins (K := K) L a i i :=
  ⟨fun p q h1 h2 h3 h4 => h p q h1 h2 (by omega), fun p h1 h2 h3 => ht p h1 (by omega)⟩
theorem Ins.stop {L : List (Nat × Nat)} {a i j : Nat} (h : Ins (K := K) L a i j) (haj : a ≤ j) (hj : j = a ∨ ¬ K (el L j).1 < K (el L (j - 1)).1) (hji : j ≤ i) : Srt K L a (i + 1) := fun p q h1 h2 h3 => by
  by_cases e : q = j
  · subst e
    rcases hj with e | e
    · omega
    · have ht := h.tag p h1 (by omega) (by omega)
      have hk : K (el L p).1 ≤ K (el L (q - 1)).1 := by
        rcases Nat.eq_or_lt_of_le (show p ≤ q - 1 by omega) with e1 | e1
        · rw [e1]; exact Int.le_refl _
        · have := h.ord p (q - 1) h1 e1 (by omega) (by omega)
          unfold lex at this
          omega
      unfold lex
      omega
  · exact h.ord p q h1 h2 (by omega) e
theorem Ins.step {L : List (Nat × Nat)} {a i j : Nat} (h : Ins (K := K) L a i j) (haj : a < j) (hji : j ≤ i) (hl : i < L.length) (hc : K (el L j).1 < K (el L (j - 1)).1) : Ins (K := K) (swp L j (j - 1)) a i (j - 1) := by
  have E : ∀ k, el (swp L j (j - 1)) k = if k = j - 1 then el L j else if k = j then el L (j - 1) else el L k := fun k => swp_el (by omega) (by omega) k
  constructor
  · intro p q h1 h2 h3 h4
    rw [E p, E q, if_neg h4]
    by_cases eq : q = j
    · rw [if_pos eq]
      by_cases ep : p = j - 1
      · rw [if_pos ep]; exact .inl hc
      · rw [if_neg ep, if_neg (by omega)]
        exact h.ord p (j - 1) h1 (by omega) (by omega) (by omega)
    · rw [if_neg eq]
      by_cases ep : p = j - 1
      · rw [if_pos ep]; exact h.ord j q (by omega) (by omega) h3 eq
      · rw [if_neg ep]
        by_cases ep2 : p = j
        · rw [if_pos ep2]; exact h.ord (j - 1) q (by omega) (by omega) h3 eq
        · rw [if_neg ep2]; exact h.ord p q h1 h2 h3 eq
  · intro p h1 h2 h3
    rw [E p, E (j - 1), if_neg h3, if_pos rfl]
    by_cases ep : p = j
    · rw [if_pos ep]; exact h.tag (j - 1) (by omega) (by omega) (by omega)
    · rw [if_neg ep]; exact h.tag p h1 h2 ep

/-- The element at a has moved right to k. -/
def MovR (L M : List (Nat × Nat)) (a k : Nat) : Prop := ∀ p, el M p = if a ≤ p ∧ p < k then el L (p + 1) else if p = k then el L a else el L p
theorem MovR.zero (L : List (Nat × Nat)) (a : Nat) : MovR L L a a := fun p => by
  rw [if_neg (by omega)]
  split
  · rename_i h; rw [h]
  · rfl
theorem MovR.step {L M : List (Nat × Nat)} {a k : Nat} (h : MovR L M a k) (hak : a ≤ k) (hl : k + 1 < M.length) : MovR L (swp M k (k + 1)) a (k + 1) := fun p => by
  rw [swp_el (by omega) hl]
  have h1 := h p
  have h2 := h k
  have h3 := h (k + 1)
  rw [if_neg (by omega), if_pos rfl] at h2
  rw [if_neg (by omega), if_neg (by omega)] at h3
  by_cases e1 : p = k + 1
  · rw [if_pos e1, if_neg (by omega), if_pos e1]; exact h2
  · rw [if_neg e1]
    by_cases e2 : p = k
    · rw [if_pos e2, if_pos (by omega), e2]; exact h3
    · rw [if_neg e2, if_neg e1, h1, if_neg e2]
      by_cases e3 : a ≤ p ∧ p < k
      · rw [if_pos e3, if_pos (by omega)]
      · rw [if_neg e3, if_neg (by omega)]
/-- Where [a, a + 1) and [a + 1, b) are in order, and the first element stands where it belongs. -/
theorem MovR.done {L M : List (Nat × Nat)} {a i b : Nat} (h : MovR L M a (i - 1)) (hi : a + 1 ≤ i) (hib : i ≤ b) (hs : Srt K L (a + 1) b) (ht : Tg L a (a + 1) b)
    (hlo : ∀ q, a + 1 ≤ q → q < i → K (el L q).1 < K (el L a).1) (hhi : ∀ q, i ≤ q → q < b → ¬ K (el L q).1 < K (el L a).1) : Srt K M a b := fun p q h1 h2 h3 => by
  rw [h p, h q]
  by_cases ep : p < i - 1
  · rw [if_pos (by omega)]
    by_cases eq : q < i - 1
    · rw [if_pos (by omega)]; exact hs _ _ (by omega) (by omega) (by omega)
    · rw [if_neg (by omega)]
      by_cases eq2 : q = i - 1
      · rw [if_pos eq2]; exact .inl (hlo _ (by omega) (by omega))
      · rw [if_neg eq2]; exact hs _ _ (by omega) (by omega) (by omega)
  · rw [if_neg (by omega), if_neg (show ¬ (a ≤ q ∧ q < i - 1) by omega), if_neg (show ¬ q = i - 1 by omega)]
    by_cases ep2 : p = i - 1
    · rw [if_pos ep2]
      have h4 := hhi q (by omega) h3
      have h5 := ht a q (by omega) (by omega) (by omega) h3
      unfold lex; omega
    · rw [if_neg ep2]; exact hs _ _ (by omega) (by omega) (by omega)
/-- The element at m has moved left to k. -/
def MovL (L M : List (Nat × Nat)) (m k : Nat) : Prop := ∀ p, el M p = if p = k then el L m else if k < p ∧ p ≤ m then el L (p - 1) else el L p
theorem MovL.zero (L : List (Nat × Nat)) (m : Nat) : MovL L L m m := fun p => by
  split
  · rename_i h; rw [h]
  · rw [if_neg (by omega)]
theorem MovL.step {L M : List (Nat × Nat)} {m k : Nat} (h : MovL L M m k) (hk : 0 < k) (hkm : k ≤ m) (hl : k < M.length) : MovL L (swp M k (k - 1)) m (k - 1) := fun p => by
  rw [swp_el hl (by omega)]
  have h1 := h p
  have h2 := h k
  have h3 := h (k - 1)
  rw [if_pos rfl] at h2
  rw [if_neg (by omega), if_neg (by omega)] at h3
  by_cases e1 : p = k - 1
  · rw [if_pos e1, if_pos e1]; exact h2
  · rw [if_neg e1, if_neg e1]
    by_cases e2 : p = k
    · rw [if_pos e2, if_pos (by omega), e2]; exact h3
    · rw [if_neg e2, h1, if_neg e2]
      by_cases e3 : k < p ∧ p ≤ m
      · rw [if_pos e3, if_pos (by omega)]
      · rw [if_neg e3, if_neg (by omega)]
theorem MovL.done {L M : List (Nat × Nat)} {a i m : Nat} (h : MovL L M m i) (hi : a ≤ i) (him : i ≤ m) (hs : Srt K L a m) (ht : Tg L a m (m + 1))
    (hlo : ∀ q, a ≤ q → q < i → ¬ K (el L m).1 < K (el L q).1) (hhi : ∀ q, i ≤ q → q < m → K (el L m).1 < K (el L q).1) : Srt K M a (m + 1) := fun p q h1 h2 h3 => by
  rw [h p, h q]
  by_cases ep : p = i
  · rw [if_pos ep, if_neg (by omega), if_pos (by omega)]
    exact .inl (hhi _ (by omega) (by omega))
  · rw [if_neg ep]
    by_cases ep2 : i < p ∧ p ≤ m
    · rw [if_pos ep2, if_neg (by omega), if_pos (by omega)]; exact hs _ _ (by omega) (by omega) (by omega)
    · rw [if_neg ep2]
      by_cases eq : q = i
      · rw [if_pos eq]
        have h4 := hlo p h1 (by omega)
        have h5 := ht p m h1 (by omega) (by omega) (by omega)
        unfold lex; omega
      · rw [if_neg eq]
        by_cases eq2 : i < q ∧ q ≤ m
        · rw [if_pos eq2]
          exact hs _ _ (by omega) (by omega) (by omega)
        · rw [if_neg eq2]; exact hs _ _ (by omega) (by omega) (by omega)

/-- [s, s + t) and [u, u + t) have been exchanged. -/
def Exch (L M : List (Nat × Nat)) (s u t : Nat) : Prop := ∀ p, el M p = if s ≤ p ∧ p < s + t then el L (u + (p - s)) else if u ≤ p ∧ p < u + t then el L (s + (p - u)) else el L p
theorem Exch.zero (L : List (Nat × Nat)) (s u : Nat) : Exch L L s u 0 := fun p => by rw [if_neg (by omega), if_neg (by omega)]
theorem Exch.step {L M : List (Nat × Nat)} {s u t : Nat} (h : Exch L M s u t) (hsu : s + t < u) (hl : u + t < M.length) : Exch L (swp M (s + t) (u + t)) s u (t + 1) := fun p => by
  rw [swp_el (by omega) hl]
  have h2 := h (s + t)
  have h3 := h (u + t)
  rw [if_neg (by omega), if_neg (by omega)] at h2
  rw [if_neg (by omega), if_neg (by omega)] at h3
  by_cases e1 : p = u + t
  · rw [if_pos e1, if_neg (by omega), if_pos (by omega), h2]
    congr 1
    omega
  · rw [if_neg e1]
    by_cases e2 : p = s + t
    · rw [if_pos e2, if_pos (by omega), h3]
      congr 1
      omega
    · rw [if_neg e2, h p]
      by_cases e3 : s ≤ p ∧ p < s + t
      · rw [if_pos e3, if_pos (by omega)]
      · rw [if_neg e3, if_neg (show ¬ (s ≤ p ∧ p < s + (t + 1)) by omega)]
        by_cases e4 : u ≤ p ∧ p < u + t
        · rw [if_pos e4, if_pos (by omega)]
        · rw [if_neg e4, if_neg (by omega)]
/-- R is M with [m - i, m) and [m, m + j) turned around. -/
def RotTo (R : Nat → Nat × Nat) (M : List (Nat × Nat)) (m i j : Nat) : Prop := ∀ p, R p = if m - i ≤ p ∧ p < m - i + j then el M (p + i) else if m - i + j ≤ p ∧ p < m + j then el M (p - j) else el M p
theorem RotTo.left {R : Nat → Nat × Nat} {M M' : List (Nat × Nat)} {m i j : Nat} (h : RotTo R M m i j) (hij : j < i) (him : i ≤ m) (hx : Exch M M' (m - i) m j) : RotTo R M' m (i - j) j := fun p => by
  rw [h p]
  by_cases c1 : m - i ≤ p ∧ p < m - i + j
  · rw [if_pos c1, if_neg (by omega), if_neg (by omega), hx p, if_pos (by omega)]
    congr 1
    omega
  · rw [if_neg c1]
    by_cases c2 : m - i + j ≤ p ∧ p < m + j
    · rw [if_pos c2]
      by_cases c3 : p < m - i + j + j
      · rw [if_pos (by omega), hx (p + (i - j)), if_neg (by omega), if_pos (by omega)]
        congr 1
        omega
      · rw [if_neg (by omega), if_pos (by omega), hx (p - j), if_neg (by omega), if_neg (by omega)]
    · rw [if_neg c2, if_neg (by omega), if_neg (by omega), hx p, if_neg (by omega), if_neg (by omega)]
theorem RotTo.right {R : Nat → Nat × Nat} {M M' : List (Nat × Nat)} {m i j : Nat} (h : RotTo R M m i j) (hij : i < j) (him : i ≤ m) (hx : Exch M M' (m - i) (m + j - i) i) : RotTo R M' m i (j - i) := fun p => by
  rw [h p]
  by_cases c1 : m - i ≤ p ∧ p < m - i + j
  · rw [if_pos c1]
    by_cases c3 : p < m - i + (j - i)
    · rw [if_pos (by omega), hx (p + i), if_neg (by omega), if_neg (by omega)]
    · rw [if_neg (by omega)]
      by_cases c4 : p < m + (j - i)
      · rw [if_pos (by omega), hx (p - (j - i)), if_pos (by omega)]
        congr 1
        omega
      · exfalso; omega
  · rw [if_neg c1]
    by_cases c2 : m - i + j ≤ p ∧ p < m + j
    · rw [if_pos c2, if_neg (by omega), if_neg (by omega), hx p, if_neg (by omega), if_pos (by omega)]
      congr 1
      omega
    · rw [if_neg c2, if_neg (by omega), if_neg (by omega), hx p, if_neg (by omega), if_neg (by omega)]
theorem RotTo.last {R : Nat → Nat × Nat} {M M' : List (Nat × Nat)} {m i : Nat} (h : RotTo R M m i i) (him : i ≤ m) (hx : Exch M M' (m - i) m i) : ∀ p, R p = el M' p := fun p => by
  rw [h p, hx p]
  by_cases c1 : m - i ≤ p ∧ p < m - i + i
  · rw [if_pos c1, if_pos c1]
    congr 1
    omega
  · rw [if_neg c1, if_neg c1]
    by_cases c2 : m ≤ p ∧ p < m + i
    · rw [if_pos (by omega), if_pos c2]
      congr 1
      omega
    · rw [if_neg (by omega), if_neg c2]
end
end Go.Proofs.Ytbkacmklgkgamaa

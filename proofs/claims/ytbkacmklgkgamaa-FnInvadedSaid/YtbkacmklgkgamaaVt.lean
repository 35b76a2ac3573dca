/- Plain law (no program): the symmetric merge, and a sort by blocks that double. Conditions: none. -/
import Derived.Test.YtbkacmklgkgamaaVs
namespace Go.Proofs.Ytbkacmklgkgamaa

section
variable {K : Nat → Int}
/-- M is L with [s, m) and [m, e) turned around. -/
def Rotd (L M : List (Nat × Nat)) (s m e : Nat) : Prop := ∀ p, el M p = if s ≤ p ∧ p < s + (e - m) then el L (p + (m - s)) else if s + (e - m) ≤ p ∧ p < e then el L (p - (e - m)) else el L p
theorem Rotd.no (L : List (Nat × Nat)) {s m e : Nat} (h : s = m ∨ e = m) (hs : s ≤ m) (he : m ≤ e) : Rotd L L s m e := fun p => by
  split
  · congr 1; omega
  · split
    · congr 1; omega
    · rfl
structure Split (K : Nat → Int) (M : List (Nat × Nat)) (a s mid e b : Nat) : Prop where
  s1 : Srt K M a s
  s2 : Srt K M s mid
  t1 : Tg M a s mid
  s3 : Srt K M mid e
  s4 : Srt K M e b
  t2 : Tg M mid e b
  lt : ∀ p q, a ≤ p → p < mid → mid ≤ q → q < b → lex K (el M p) (el M q)
theorem merge_split {L M : List (Nat × Nat)} {a s m mid e b : Nat} (hs1 : Srt K L a m) (hs2 : Srt K L m b) (ht : Tg L a m b) (hr : Rotd L M s m e)
    (h1 : a ≤ s) (h2 : s ≤ m) (h3 : m ≤ e) (h4 : e ≤ b) (h5 : e + s = mid + m) (hlo : s = a ∨ e = b ∨ K (el L (s - 1)).1 ≤ K (el L e).1) (hhi : s = m ∨ e = m ∨ K (el L (e - 1)).1 < K (el L s).1) : Split K M a s mid e b := by
  have e1 : ∀ p, p < s → el M p = el L p := fun p hp => by rw [hr p, if_neg (by omega), if_neg (by omega)]
  have e2 : ∀ p, s ≤ p → p < mid → el M p = el L (p + (m - s)) := fun p hp hq => by rw [hr p, if_pos (by omega)]
  have e3 : ∀ p, mid ≤ p → p < e → el M p = el L (p - (e - m)) := fun p hp hq => by rw [hr p, if_neg (by omega), if_pos (by omega)]
  have e4 : ∀ p, e ≤ p → el M p = el L p := fun p hp => by rw [hr p, if_neg (by omega), if_neg (by omega)]
  -- an element of [a, s) is below one of [e, b)
  have hA : ∀ x y, a ≤ x → x < s → e ≤ y → y < b → lex K (el L x) (el L y) := fun x y hx hx' hy hy' => by
    have k1 := hs1.key hx (show x ≤ s - 1 by omega) (by omega)
    have k2 := hs2.key h3 hy hy'
    have k3 := ht x y hx (by omega) (by omega) hy'
    unfold lex
    rcases hlo with c | c | c <;> omega
  -- an element of [m, e) is below one of [s, m)
  have hB : ∀ x y, m ≤ x → x < e → s ≤ y → y < m → lex K (el L x) (el L y) := fun x y hx hx' hy hy' => by
    have k1 := hs2.key hx (show x ≤ e - 1 by omega) (by omega)
    have k2 := hs1.key h1 hy hy'
    unfold lex
    rcases hhi with c | c | c <;> omega
  refine ⟨fun p q a1 a2 a3 => ?_, fun p q a1 a2 a3 => ?_, fun p q a1 a2 a3 a4 => ?_, fun p q a1 a2 a3 => ?_, fun p q a1 a2 a3 => ?_, fun p q a1 a2 a3 a4 => ?_, fun p q a1 a2 a3 a4 => ?_⟩
  · rw [e1 p (by omega), e1 q (by omega)]; exact hs1 p q a1 a2 (by omega)
  · rw [e2 p (by omega) (by omega), e2 q (by omega) (by omega)]; exact hs2 _ _ (by omega) (by omega) (by omega)
  · rw [e1 p (by omega), e2 q (by omega) (by omega)]; exact ht _ _ (by omega) (by omega) (by omega) (by omega)
  · rw [e3 p (by omega) (by omega), e3 q (by omega) (by omega)]; exact hs1 _ _ (by omega) (by omega) (by omega)
  · rw [e4 p (by omega), e4 q (by omega)]; exact hs2 _ _ (by omega) (by omega) (by omega)
  · rw [e3 p (by omega) (by omega), e4 q (by omega)]; exact ht _ _ (by omega) (by omega) (by omega) (by omega)
  · by_cases c1 : p < s
    · rw [e1 p c1]
      by_cases c2 : q < e
      · rw [e3 q a3 c2]; exact hs1 _ _ (by omega) (by omega) (by omega)
      · rw [e4 q (by omega)]; exact hA _ _ a1 c1 (by omega) a4
    · rw [e2 p (by omega) a2]
      by_cases c2 : q < e
      · rw [e3 q a3 c2]; exact hB _ _ (by omega) (by omega) (by omega) (by omega)
      · rw [e4 q (by omega)]; exact hs2 _ _ (by omega) (by omega) a4
theorem Tg.congr {L M : List (Nat × Nat)} {a m b : Nat} (h : Tg L a m b) (e : ∀ k, a ≤ k → k < b → el M k = el L k) : Tg M a m b := fun p q h1 h2 h3 h4 => by
  rw [e p h1 (by omega), e q (by omega) h4]; exact h p q h1 h2 h3 h4
theorem merge_join {M N1 N2 : List (Nat × Nat)} {a s mid e b : Nat} (h : Split K M a s mid e b) (k1 : Shuf a mid M N1) (k2 : Shuf mid b N1 N2) (h1 : Srt K N1 a mid) (h2 : Srt K N2 mid b) (ham : a ≤ mid) (hmb : mid ≤ b) : Srt K N2 a b := fun p q a1 a2 a3 => by
  by_cases c1 : q < mid
  · rw [k2.out (.inl (by omega)), k2.out (.inl c1)]; exact h1 p q a1 a2 c1
  · by_cases c2 : p < mid
    · rw [k2.out (.inl c2)]
      have P1 := k1.all (fun x => ∀ q, mid ≤ q → q < b → lex K x (el M q)) (fun k b1 b2 q b3 b4 => h.lt k q b1 b2 b3 b4) p a1 c2
      exact k2.all (fun y => lex K (el N1 p) y) (fun k b1 b2 => by rw [k1.out (.inr b1)]; exact P1 k b1 b2) q (by omega) a3
    · exact h2 p q (by omega) a2 a3
theorem Tg.shuf {L L' : List (Nat × Nat)} {a b c n : Nat} (h : Tg L 0 c n) (k : Shuf a b L L') (hc : c ≤ a ∨ b ≤ c) (hb : b ≤ n) : Tg L' 0 c n := fun p q h1 h2 h3 h4 => by
  have o : ∀ i, i < a ∨ b ≤ i → el L' i = el L i := fun i hi => k.out hi
  have P : ∀ p, p < c → ∀ q, c ≤ q → q < n → (el L p).2 < (el L' q).2 := fun p b1 q b2 b3 => by
    by_cases c1 : q < a ∨ b ≤ q
    · rw [o q c1]; exact h p q (Nat.zero_le _) b1 b2 b3
    · have hca : c ≤ a := by omega
      exact k.all (fun x => (el L p).2 < x.2) (fun j d1 d2 => h p j (Nat.zero_le _) b1 (by omega) (by omega)) q (by omega) (by omega)
  by_cases c1 : p < a ∨ b ≤ p
  · rw [o p c1]; exact P p h2 q h3 h4
  · have hcb : b ≤ c := by omega
    exact k.all (fun x => x.2 < (el L' q).2) (fun j d1 d2 => P j (by omega) q h3 h4) p (by omega) (by omega)
variable (K) in
/-- Blocks of z elements from a on are in order, and tags rise from block to block. -/
def Good (L : List (Nat × Nat)) (z a n : Nat) : Prop := ∀ k, Srt K L (a + k * z) (min (a + k * z + z) n) ∧ Tg L 0 (a + k * z) n
variable (K) in
/-- Blocks of z elements up to a are in order. -/
def Done (L : List (Nat × Nat)) (z a n : Nat) : Prop := ∀ k, k * z + z ≤ a → Srt K L (k * z) (k * z + z) ∧ Tg L 0 (k * z) n
theorem Srt.shuf {L L' : List (Nat × Nat)} {a b c d : Nat} (h : Srt K L c d) (k : Shuf a b L L') (hc : d ≤ a ∨ b ≤ c) : Srt K L' c d := h.congr fun j h1 h2 => k.out (by omega)
theorem Good.shuf {L L' : List (Nat × Nat)} {z a b c n : Nat} (h : Good K L z c n) (k : Shuf a b L L') (hc : b ≤ c) (hb : b ≤ n) : Good K L' z c n := fun j => by
  have h1 := h j
  refine ⟨h1.1.shuf k (.inr (by have := Nat.le_add_right c (j * z); omega)), h1.2.shuf k (.inr (by have := Nat.le_add_right c (j * z); omega)) hb⟩
theorem Good.next {L : List (Nat × Nat)} {z a n : Nat} (h : Good K L z a n) (i : Nat) : Good K L z (a + i * z) n := fun j => by
  have := h (i + j)
  rw [Nat.add_mul, ← Nat.add_assoc] at this
  exact this
theorem Done.step {L L' : List (Nat × Nat)} {z k0 n : Nat} (h : Done K L z (k0 * z) n) (k : Shuf (k0 * z) (k0 * z + z) L L') (hs : Srt K L' (k0 * z) (k0 * z + z)) (ht : Tg L 0 (k0 * z) n) (hz : 0 < z) (hn : k0 * z + z ≤ n) : Done K L' z (k0 * z + z) n := fun j hj => by
  have hjk : j ≤ k0 := by
    have : j * z ≤ k0 * z := by omega
    exact Nat.le_of_mul_le_mul_right this hz
  rcases Nat.eq_or_lt_of_le hjk with e | e
  · subst e
    exact ⟨hs, ht.shuf k (.inl (Nat.le_refl _)) hn⟩
  · have h1 : j * z + z ≤ k0 * z := by
      have := Nat.mul_le_mul_right z (show j + 1 ≤ k0 from e)
      rw [Nat.add_mul] at this
      omega
    obtain ⟨h2, h3⟩ := h j h1
    exact ⟨h2.shuf k (.inl h1), h3.shuf k (.inl (by omega)) hn⟩
/-- All blocks, where the last one is shorter. -/
theorem Done.all {L : List (Nat × Nat)} {z k0 n : Nat} (h : Done K L z (k0 * z) n) (hs : Srt K L (k0 * z) n) (ht : Tg L 0 (k0 * z) n) (hz : 0 < z) (hn : n ≤ k0 * z + z) : Good K L z 0 n := fun j => by
  rw [Nat.zero_add]
  rcases Nat.lt_trichotomy j k0 with e | e | e
  · have h1 : j * z + z ≤ k0 * z := by
      have := Nat.mul_le_mul_right z (show j + 1 ≤ k0 from e)
      rw [Nat.add_mul] at this
      omega
    obtain ⟨h2, h3⟩ := h j h1
    exact ⟨h2.sub (Nat.le_refl _) (by omega), h3⟩
  · subst e
    exact ⟨hs.sub (Nat.le_refl _) (by omega), ht⟩
  · have h1 : k0 * z + z ≤ j * z := by
      have := Nat.mul_le_mul_right z (show k0 + 1 ≤ j from e)
      rw [Nat.add_mul] at this
      omega
    exact ⟨fun p q a1 a2 a3 => by omega, fun p q a1 a2 a3 a4 => by omega⟩
theorem Done.zero (L : List (Nat × Nat)) (z n : Nat) (hz : 0 < z) : Done K L z (0 * z) n := fun k h => by omega
theorem Good.srt {L : List (Nat × Nat)} {z n : Nat} (h : Good K L z 0 n) (hz : n ≤ z) : Srt K L 0 n := by
  have := (h 0).1
  rw [Nat.zero_mul, Nat.add_zero, Nat.zero_add] at this
  exact this.sub (Nat.le_refl _) (by omega)
theorem Tr.tg {L : List (Nat × Nat)} {a b c : Nat} (h : Tr L a b) : Tg L a c b := fun p q h1 h2 h3 h4 => h p q h1 (by omega) h4
end
end Go.Proofs.Ytbkacmklgkgamaa

/- Plain law (no program): walkers that stick make as many cells more; edges that grow make no new group. No condition. -/
import Derived.Test.YtknonmfffcjonaaKd
import Derived.Test.YtknonmfffcjonaaPk
import Derived.Test.YtknonmfffcjonaaSym
namespace Go.Proofs.Ytknonmfffcjonaa

theorem sumN_one {f g : Nat → Nat} {a : Nat} (ha : g a = f a + 1) (ho : ∀ j, j ≠ a → g j = f j) : ∀ N, a < N → sumN g N = sumN f N + 1
  | 0, h => absurd h (by omega)
  | N + 1, h => by
    show sumN g N + g N = sumN f N + f N + 1
    by_cases e : a = N
    · subst e
      have : sumN g a = sumN f a := sumN_congr fun i hi => ho i (by omega)
      omega
    · have := sumN_one ha ho N (by omega)
      have := ho N (by omega)
      omega
theorem getD_setB (cs : List Bool) (a j : Nat) (ha : a < cs.length) : (cs.set a true).getD j false = if j = a then true else cs.getD j false := by
  rw [List.getD_eq_getElem?_getD, List.getElem?_set, List.getD_eq_getElem?_getD]
  by_cases h : a = j
  · subst h
    simp [ha]
  · rw [if_neg h, if_neg (fun e => h e.symm)]
theorem fullN_set {cs : List Bool} {a N : Nat} (hl : cs.length = N) (ha : a < N) (h0 : cs.getD a false = false) : fullN (cs.set a true) N = fullN cs N + 1 := by
  refine sumN_one ?_ (fun j hj => ?_) N ha
  · show b1 ((cs.set a true).getD a false) = b1 (cs.getD a false) + 1
    rw [getD_setB _ _ _ (by omega), if_pos rfl, h0]
    rfl
  · show b1 ((cs.set a true).getD j false) = b1 (cs.getD j false)
    rw [getD_setB _ _ _ (by omega), if_neg hj]
theorem side1 {W H i : Nat} (h : W ≤ i) : i - W ∈ nbs W H i := by
  unfold nbs nb1
  rw [if_pos h]
  simp
theorem side2 {W H i : Nat} (h : 0 < i % W) : i - 1 ∈ nbs W H i := by
  unfold nbs nb2
  rw [if_pos h]
  simp
theorem side3 {W H i : Nat} (h : i % W + 1 < W) : i + 1 ∈ nbs W H i := by
  unfold nbs nb3
  rw [if_pos h]
  simp
theorem side4 {W H i : Nat} (h : i + W < W * H) : i + W ∈ nbs W H i := by
  unfold nbs nb4
  rw [if_pos h]
  simp
theorem moved_side {W H i : Nat} (hW : 0 < W) (hi : i < W * H) (d : Nat) : moved W H i d = i ∨ moved W H i d ∈ nbs W H i := by
  have h0 := Nat.div_add_mod i W
  rw [Nat.mul_comm] at h0
  have hlt := Nat.mod_lt i hW
  unfold moved
  by_cases d0 : d = 0
  · rw [if_pos d0]
    by_cases h : 1 ≤ i / W
    · rw [if_pos h]
      right
      have h1 : i / W * W = (i / W - 1) * W + W := by
        rw [← Nat.succ_mul]
        congr 1
        omega
      have e : (i / W - 1) * W + i % W = i - W := by omega
      rw [e]
      exact side1 (by omega)
    · rw [if_neg h]
      exact .inl rfl
  · rw [if_neg d0]
    by_cases d1 : d = 1
    · rw [if_pos d1]
      by_cases h : 1 ≤ i % W
      · rw [if_pos h]
        right
        have e : i / W * W + (i % W - 1) = i - 1 := by omega
        rw [e]
        exact side2 h
      · rw [if_neg h]
        exact .inl rfl
    · rw [if_neg d1]
      by_cases d2 : d = 2
      · rw [if_pos d2]
        by_cases h : i % W + 1 < W
        · rw [if_pos h]
          right
          have e : i / W * W + (i % W + 1) = i + 1 := by omega
          rw [e]
          exact side3 h
        · rw [if_neg h]
          exact .inl rfl
      · rw [if_neg d2]
        by_cases h : i / W + 1 < H
        · rw [if_pos h]
          right
          have h2 := grid_lt hlt h
          have h3 : (i / W + 1) * W = i / W * W + W := Nat.succ_mul _ _
          have e : (i / W + 1) * W + i % W = i + W := by omega
          rw [e] at h2 ⊢
          exact side4 h2
        · rw [if_neg h]
          exact .inl rfl
theorem touch_no {cs : List Bool} {bs : List Nat} (h : touch cs bs = false) : ∀ b ∈ bs, cs.getD b false = false := by
  intro b hb
  unfold touch at h
  rw [List.any_eq_false] at h
  simpa using h b hb
theorem walkTo_empty {cs : List Bool} {W H : Nat} (hW : 0 < W) : ∀ k at_ s, at_ < W * H → cs.getD at_ false = false → cs.getD (walkTo cs W H k at_ s).1 false = false := by
  intro k
  induction k with
  | zero => intro at_ s _ h; exact h
  | succ k ih =>
    intro at_ s hi h
    cases ht : touch cs (nbs W H at_) with
    | true => rw [walkTo_stop ht]; exact h
    | false =>
      rw [walkTo_step ht]
      refine ih _ _ (moved_lt hW hi _) ?_
      rcases moved_side hW hi (drw s 4) with e | e
      · rw [e]; exact h
      · exact touch_no ht _ e
/-- One field's cells in another's. -/
def Sub (cs cs' : List Bool) : Prop := ∀ j, cs.getD j false = true → cs'.getD j false = true
theorem Sub.refl (cs : List Bool) : Sub cs cs := fun _ h => h
theorem Sub.trans {a b c : List Bool} (h : Sub a b) (k : Sub b c) : Sub a c := fun j hj => k j (h j hj)
theorem Sub.set {cs : List Bool} {a : Nat} (ha : a < cs.length) : Sub cs (cs.set a true) := fun j hj => by
  rw [getD_setB _ _ _ ha]
  split
  · rfl
  · exact hj
theorem stick_more {cs : List Bool} {W H most s N : Nat} (hW : 0 < W) (hH : 0 < H) (hP : W * H = N) (hl : cs.length = N) :
    fullN (stick cs W H most s).2.2 N = fullN cs N + (stick cs W H most s).2.1.toNat ∧ Sub cs (stick cs W H most s).2.2 := by
  have hd : drw s (W * H) < W * H := drw_lt s (Nat.mul_pos hW hH)
  unfold stick
  split
  · exact ⟨rfl, Sub.refl _⟩
  · rename_i h
    split
    · have hlt := walkTo_lt (cs := cs) (H := H) hW most (drw s (W * H)) (nxt s) hd
      have he := walkTo_empty (cs := cs) (H := H) hW most (drw s (W * H)) (nxt s) hd (by simpa using h)
      exact ⟨fullN_set hl (by omega) he, Sub.set (by omega)⟩
    · exact ⟨rfl, Sub.refl _⟩
theorem sticks_more {W H most N : Nat} (hW : 0 < W) (hH : 0 < H) (hP : W * H = N) : ∀ (k : Nat) (cs : List Bool) (s n : Nat), cs.length = N →
    fullN (sticks W H most k cs s n).1 N + n = fullN cs N + (sticks W H most k cs s n).2.2 ∧ Sub cs (sticks W H most k cs s n).1 ∧ n ≤ (sticks W H most k cs s n).2.2 ∧ (sticks W H most k cs s n).2.2 ≤ n + k := by
  intro k
  induction k with
  | zero => intro cs s n _; exact ⟨rfl, Sub.refl _, Nat.le_refl _, Nat.le_refl _⟩
  | succ k ih =>
    intro cs s n hl
    obtain ⟨h1, h2⟩ := stick_more (most := most) (s := s) hW hH hP hl
    obtain ⟨i1, i2, i3, i4⟩ := ih (stick cs W H most s).2.2 (stick cs W H most s).1 (n + (stick cs W H most s).2.1.toNat) (by rw [stick_len]; exact hl)
    have hb : (stick cs W H most s).2.1.toNat ≤ 1 := by cases (stick cs W H most s).2.1 <;> simp
    unfold sticks
    exact ⟨by omega, h2.trans i2, by omega, by omega⟩
theorem sticks_snoc (W H most : Nat) : ∀ (k : Nat) (cs : List Bool) (s n : Nat), sticks W H most (k + 1) cs s n =
    ((stick (sticks W H most k cs s n).1 W H most (sticks W H most k cs s n).2.1).2.2, (stick (sticks W H most k cs s n).1 W H most (sticks W H most k cs s n).2.1).1, (sticks W H most k cs s n).2.2 + (stick (sticks W H most k cs s n).1 W H most (sticks W H most k cs s n).2.1).2.1.toNat) := by
  intro k
  induction k with
  | zero => intro cs s n; rfl
  | succ k ih =>
    intro cs s n
    have e : ∀ m, sticks W H most (m + 1) cs s n = sticks W H most m (stick cs W H most s).2.2 (stick cs W H most s).1 (n + (stick cs W H most s).2.1.toNat) := fun _ => rfl
    rw [e (k + 1), ih, e k]
theorem sticks_le (W H most : Nat) : ∀ k cs s n, s ≤ 2147483647 → (sticks W H most k cs s n).2.1 ≤ 2147483647 := by
  intro k
  induction k with
  | zero => intro cs s n h; exact h
  | succ k ih => intro cs s n _; unfold sticks; exact ih _ _ _ (stick_le _ _ _ _ _)

/-- Cells beside full ones, up to the k-th. -/
def edgeTo (cs : List Bool) (W H k : Nat) : List Nat := (List.range k).filter fun i => !cs.getD i false && touch cs (nbs W H i)
theorem edgeTo_zero (cs : List Bool) (W H : Nat) : edgeTo cs W H 0 = [] := rfl
theorem edgeTo_yes {cs : List Bool} {W H k : Nat} (h : cs.getD k false = false) (ht : touch cs (nbs W H k) = true) : edgeTo cs W H (k + 1) = edgeTo cs W H k ++ [k] := by
  unfold edgeTo
  rw [List.range_succ, List.filter_append]
  have e : List.filter (fun i => !cs.getD i false && touch cs (nbs W H i)) [k] = [k] := by simp only [List.filter, h, ht]; rfl
  rw [e]
theorem edgeTo_full {cs : List Bool} {W H k : Nat} (h : cs.getD k false = true) : edgeTo cs W H (k + 1) = edgeTo cs W H k := by
  unfold edgeTo
  rw [List.range_succ, List.filter_append]
  have e : List.filter (fun i => !cs.getD i false && touch cs (nbs W H i)) [k] = [] := by simp only [List.filter, h]; rfl
  rw [e, List.append_nil]
theorem edgeTo_no {cs : List Bool} {W H k : Nat} (h : cs.getD k false = false) (ht : touch cs (nbs W H k) = false) : edgeTo cs W H (k + 1) = edgeTo cs W H k := by
  unfold edgeTo
  rw [List.range_succ, List.filter_append]
  have e : List.filter (fun i => !cs.getD i false && touch cs (nbs W H i)) [k] = [] := by simp only [List.filter, h, ht]; rfl
  rw [e, List.append_nil]
theorem edgeTo_len (cs : List Bool) (W H k : Nat) : (edgeTo cs W H k).length ≤ k := by
  unfold edgeTo
  have := List.length_filter_le (fun i => !cs.getD i false && touch cs (nbs W H i)) (List.range k)
  simpa using this
theorem edgeTo_mem {cs : List Bool} {W H k a : Nat} (h : a ∈ edgeTo cs W H k) : a < k ∧ cs.getD a false = false ∧ touch cs (nbs W H a) = true := by
  unfold edgeTo at h
  rw [List.mem_filter] at h
  have h1 := List.mem_range.1 h.1
  have h2 := h.2
  rw [Bool.and_eq_true] at h2
  exact ⟨h1, by simpa using h2.1, h2.2⟩
/-- The cell that a seed draws of the edge. -/
def pickE (cs : List Bool) (W H N s : Nat) : Nat := (edgeTo cs W H N).getD (drw s (edgeTo cs W H N).length) 0
theorem pickE_get {cs : List Bool} {W H N s : Nat} (h : 0 < (edgeTo cs W H N).length) : (edgeTo cs W H N)[drw s (edgeTo cs W H N).length]? = some (pickE cs W H N s) := by
  have hd := drw_lt s h
  unfold pickE
  rw [List.getD_eq_getElem?_getD, List.getElem?_eq_getElem hd]
  rfl
theorem pickE_mem {cs : List Bool} {W H N s : Nat} (h : 0 < (edgeTo cs W H N).length) : pickE cs W H N s ∈ edgeTo cs W H N := List.mem_of_getElem? (pickE_get h)
/-- Growing edges. -/
def grows (W H N : Nat) : Nat → List Bool → Nat → Option (List Bool × Nat)
  | 0, cs, s => some (cs, s)
  | k + 1, cs, s => if (edgeTo cs W H N).length = 0 then none else grows W H N k (cs.set (pickE cs W H N s) true) (nxt s)
theorem Lk.trans {cs : List Bool} {nb : Nat → List Nat} {a b c : Nat} (h : Lk cs nb a b) (k : Lk cs nb b c) : Lk cs nb a c := by
  induction k with
  | refl _ => exact h
  | step _ hb hc ih => exact .step ih hb hc
theorem Lk.mono {cs cs' : List Bool} {nb : Nat → List Nat} (hs : Sub cs cs') {a b : Nat} (h : Lk cs nb a b) : Lk cs' nb a b := by
  induction h with
  | refl h => exact .refl (hs _ h)
  | step _ hb hc ih => exact .step ih hb (hs _ hc)
theorem grows_more {W H N : Nat} (hW : 0 < W) (hP : W * H = N) : ∀ (k : Nat) (cs : List Bool) (s : Nat) (C : List Bool) (s' : Nat), cs.length = N → grows W H N k cs s = some (C, s') →
    C.length = N ∧ fullN C N = fullN cs N + k ∧ Sub cs C ∧ ∀ j < N, C.getD j false = true → ∃ r < N, cs.getD r false = true ∧ Lk C (nbs W H) r j := by
  intro k
  induction k with
  | zero =>
    intro cs s C s' hl h
    unfold grows at h
    injection h with h
    injection h with h1 h2
    subst h1
    exact ⟨hl, rfl, Sub.refl _, fun j hj hf => ⟨j, hj, hf, .refl hf⟩⟩
  | succ k ih =>
    intro cs s C s' hl h
    unfold grows at h
    split at h
    · cases h
    · rename_i h0
      have h0' : 0 < (edgeTo cs W H N).length := by omega
      obtain ⟨m1, m2, m3⟩ := edgeTo_mem (pickE_mem (s := s) h0')
      obtain ⟨a, ea⟩ : ∃ a, pickE cs W H N s = a := ⟨_, rfl⟩
      rw [ea] at h m1 m2 m3
      obtain ⟨i1, i2, i3, i4⟩ := ih (cs.set a true) (nxt s) C s' (by rw [List.length_set]; exact hl) h
      have hsub : Sub cs (cs.set a true) := Sub.set (by omega)
      refine ⟨i1, by rw [i2, fullN_set hl m1 m2]; omega, hsub.trans i3, fun j hj hf => ?_⟩
      obtain ⟨r, hr, hrf, hrl⟩ := i4 j hj hf
      rw [getD_setB _ _ _ (by omega)] at hrf
      by_cases e : r = a
      · subst e
        unfold touch at m3
        obtain ⟨b, hb, hbf⟩ := List.any_eq_true.1 m3
        have hbN : b < N := by rw [← hP]; exact nbs_lt (by rw [hP]; exact m1) hb
        have hsy : r ∈ nbs W H b := nbs_sym hW (by rw [hP]; exact m1) hb
        have hfull : C.getD r false = true := i3 r (by rw [getD_setB _ _ _ (by omega), if_pos rfl])
        exact ⟨b, hbN, hbf, (Lk.step (.refl ((hsub.trans i3) b hbf)) hsy hfull).trans hrl⟩
      · rw [if_neg e] at hrf
        exact ⟨r, hr, hrf, hrl⟩
/-- As many as are told apart. -/
theorem pigeon : ∀ (m n : Nat) (f : Nat → Nat), (∀ i < n, f i < m) → (∀ i < n, ∀ j < n, f i = f j → i = j) → n ≤ m := by
  intro m
  induction m with
  | zero =>
    intro n f h _
    rcases Nat.eq_zero_or_pos n with e | e
    · omega
    · exact absurd (h 0 e) (by omega)
  | succ m ih =>
    intro n f h hi
    by_cases hx : ∃ i, i < n ∧ f i = m
    · obtain ⟨i0, hi0, hf0⟩ := hx
      have := ih (n - 1) (fun j => f (if j < i0 then j else j + 1)) (fun j hj => by
        have hne : f (if j < i0 then j else j + 1) ≠ m := fun e => by
          have := hi _ (by split <;> omega) _ hi0 (e.trans hf0.symm)
          split at this <;> omega
        have := h (if j < i0 then j else j + 1) (by split <;> omega)
        show f (if j < i0 then j else j + 1) < m
        omega) (fun a ha b hb e => by
        have := hi _ (by split <;> omega) _ (by split <;> omega) e
        split at this <;> split at this <;> omega)
      omega
    · have := ih n f (fun i hin => by
        have h1 := h i hin
        rcases Nat.lt_or_ge (f i) m with h2 | h2
        · exact h2
        · exact absurd ⟨i, hin, by omega⟩ hx) hi
      omega
section
variable {cs : List Bool} {N : Nat} {nb : Nat → List Nat}
/-- Every group has a cell. -/
theorem grp_used : ∀ {i : Nat} {ts sz : List Int}, i ≤ N → Grp cs N nb i ts sz → ∀ g, g < sz.length → ∃ j < N, ts.getD j 0 = (g : Int) := by
  intro i
  induction i with
  | zero => intro ts sz _ h g hg; cases h; simp at hg
  | succ i ih =>
    intro ts sz hi h g hg
    cases h with
    | skip a c => exact ih (by omega) a g hg
    | more a c s =>
      rename_i t0 sz0 D
      rw [List.length_append, List.length_singleton] at hg
      rcases Nat.lt_or_ge g sz0.length with h1 | h1
      · obtain ⟨j, hj, e⟩ := ih (by omega) a g h1
        refine ⟨j, hj, ?_⟩
        by_cases hm : ts.getD j 0 = (sz0.length : Int)
        · exfalso
          have h2 := (s.mark j hj).1 hm
          have h3 := (s.reach j h2).neg c.2
          omega
        · rw [s.keep j hj hm]
          exact e
      · have e : g = sz0.length := by omega
        subst e
        have hr : i ∈ D ∨ i ∈ [] := s.root
        exact ⟨i, by omega, (s.mark i (by omega)).2 hr⟩
theorem lk_const {ts sz : List Int} (h : GOk cs N nb N ts sz) (hnb : ∀ j < N, ∀ b ∈ nb j, b < N) {r j : Nat} (hr : r < N) (hl : Lk cs nb r j) : ts.getD j 0 = ts.getD r 0 := by
  have := Lk.iff (cs := cs) (nb := nb) (N := N) (Pr := fun a => ts.getD a 0 = ts.getD r 0) hnb (fun a ha b hb hfa hfb => by
    have h1 := h.side a ha (h.some_ a ha ha hfa) b hb hfb
    rw [h1]) hr hl
  exact this.1 rfl
/-- Cells more, each linked to one of before: no new group. -/
theorem groups_le {cs' : List Bool} {T Z T' Z' : List Int} (hnb : ∀ j < N, ∀ b ∈ nb j, b < N) (hsym : ∀ j < N, ∀ b ∈ nb j, j ∈ nb b) (h : Grp cs N nb N T Z) (h' : Grp cs' N nb N T' Z') (hsub : Sub cs cs')
    (hcon : ∀ j < N, cs'.getD j false = true → ∃ r < N, cs.getD r false = true ∧ Lk cs' nb r j) : Z'.length ≤ Z.length := by
  have G := gok_of hnb hsym (Nat.le_refl _) h
  have G' := gok_of hnb hsym (Nat.le_refl _) h'
  have hex : ∀ g, ∃ r, g < Z'.length → r < N ∧ cs.getD r false = true ∧ T'.getD r 0 = (g : Int) := by
    intro g
    by_cases hg : g < Z'.length
    · obtain ⟨j, hj, e⟩ := grp_used (Nat.le_refl _) h' g hg
      have hf : cs'.getD j false = true := by
        cases hc : cs'.getD j false with
        | true => rfl
        | false => have := G'.none_ j hj hc; omega
      obtain ⟨r, hr, hrf, hrl⟩ := hcon j hj hf
      exact ⟨r, fun _ => ⟨hr, hrf, by rw [← lk_const G' hnb hr hrl]; exact e⟩⟩
    · exact ⟨0, fun hh => absurd hh hg⟩
  obtain ⟨ρ, hρ⟩ := Classical.axiomOfChoice hex
  refine pigeon Z.length Z'.length (fun g => (T.getD (ρ g) 0).toNat) (fun g hg => ?_) (fun g hg k hk e => ?_)
  · obtain ⟨h1, h2, _⟩ := hρ g hg
    have h3 := G.hi _ h1
    have h4 := G.some_ _ h1 h1 h2
    show (T.getD (ρ g) 0).toNat < Z.length
    omega
  · obtain ⟨h1, h2, h3⟩ := hρ g hg
    obtain ⟨k1, k2, k3⟩ := hρ k hk
    have p1 := G.some_ _ h1 h1 h2
    have p2 := G.some_ _ k1 k1 k2
    have e' : T.getD (ρ g) 0 = T.getD (ρ k) 0 := by
      have e0 : (T.getD (ρ g) 0).toNat = (T.getD (ρ k) 0).toNat := e
      omega
    obtain ⟨r, hr, l1, l2⟩ := G.link _ h1 _ k1 p1 e'
    have q1 := lk_const G' hnb hr (l1.mono hsub)
    have q2 := lk_const G' hnb hr (l2.mono hsub)
    omega
end
end Go.Proofs.Ytknonmfffcjonaa

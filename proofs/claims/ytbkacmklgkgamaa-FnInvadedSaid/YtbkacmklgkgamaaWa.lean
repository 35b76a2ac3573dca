/- Plain law (no program): cells that are invaded one after the other, beside those before; a grid hangs together; lesser weights. Conditions: none. -/
import Derived.Test.YtbkacmklgkgamaaVp
import Derived.Test.YtbkacmklgkgamaaPk
namespace Go.Proofs.Ytbkacmklgkgamaa

/-- All cells of a grid hang together. -/
theorem grid_linked {W H : Nat} {cs : List Bool} (hW : 1 ≤ W) (hc : ∀ j < W * H, cs.getD j false = true) : ∀ j < W * H, Lk cs (nbs W H) 0 j := by
  have col : ∀ k, k < H → Lk cs (nbs W H) 0 (k * W) := by
    intro k
    induction k with
    | zero => intro h0; rw [Nat.zero_mul]; exact .refl (hc 0 (Nat.mul_pos hW h0))
    | succ k ih =>
      intro hk
      have h1 := ih (by omega)
      have h2 : (k + 1) * W < W * H := by
        have := Nat.mul_lt_mul_of_pos_right hk hW
        rwa [Nat.mul_comm H W] at this
      refine .step h1 ?_ (hc _ h2)
      have e : (k + 1) * W = k * W + W := Nat.succ_mul _ _
      rw [e] at h2 ⊢
      unfold nbs nb4
      rw [if_pos h2]
      simp
  intro j hj
  have hq : j / W < H := Nat.div_lt_of_lt_mul hj
  have hm := Nat.mod_lt j hW
  have hd := Nat.div_add_mod j W
  rw [Nat.mul_comm] at hd
  have row : ∀ m, m < W → Lk cs (nbs W H) 0 (j / W * W + m) := by
    intro m
    induction m with
    | zero => intro _; exact col _ hq
    | succ m ih =>
      intro hm
      have h1 := ih (by omega)
      have h2 : j / W * W + (m + 1) < W * H := by
        have h3 : (j / W + 1) * W ≤ H * W := Nat.mul_le_mul_right W hq
        rw [Nat.succ_mul, Nat.mul_comm H W] at h3
        omega
      refine .step h1 ?_ (hc _ h2)
      have e : (j / W * W + m) % W = m := by
        rw [Nat.add_comm, Nat.add_mul_mod_self_right]
        exact Nat.mod_eq_of_lt (by omega)
      unfold nbs nb3
      rw [e, if_pos hm]
      simp [Nat.add_assoc]
  have := row _ hm
  rwa [hd] at this
/-- Where some cells are full, and some are not, one that is not is beside one that is. -/
theorem edge_ex {W H N : Nat} {cs : List Bool} (hW : 1 ≤ W) (hP : W * H = N) {a b : Nat} (ha : a < N) (hfa : cs.getD a false = true) (hb : b < N) (hfb : cs.getD b false = false) : ∃ i < N, cs.getD i false = false ∧ touch cs (nbs W H i) = true := by
  apply Classical.byContradiction
  intro hno
  have hnb : ∀ j < N, ∀ c ∈ nbs W H j, c < N := fun j hj c hc => by
    rw [← hP] at hj ⊢
    exact nbs_lt hj hc
  have hcl : ∀ x < N, ∀ y ∈ nbs W H x, (cs.getD x false = true ↔ cs.getD y false = true) := fun x hx y hy => by
    have hyN := hnb x hx y hy
    have hsy : x ∈ nbs W H y := nbs_sym hW (by rw [hP]; exact hx) hy
    constructor
    · intro h
      cases hy0 : cs.getD y false with
      | true => rfl
      | false => exact absurd ⟨y, hyN, hy0, touch_some hsy h⟩ hno
    · intro h
      cases hx0 : cs.getD x false with
      | true => rfl
      | false => exact absurd ⟨x, hx, hx0, touch_some hy h⟩ hno
  have full : ∀ j < W * H, (List.replicate N true).getD j false = true := fun j hj => by
    rw [List.getD_eq_getElem?_getD, List.getElem?_replicate, if_pos (by omega)]; rfl
  have key : ∀ j < N, (cs.getD 0 false = true ↔ cs.getD j false = true) := fun j hj => by
    have hl := grid_linked hW full j (by rw [hP]; exact hj)
    exact Lk.iff (Pr := fun a => cs.getD a false = true) hnb (fun x hx y hy _ _ => hcl x hx y hy) (by omega) hl
  have h1 := (key a ha).2 hfa
  have h2 := (key b hb).1 h1
  rw [hfb] at h2
  cases h2
/-- Invaded cells. -/
structure Inv (W H N at_ k : Nat) (ord : List Nat) (cs : List Bool) : Prop where
  len : ord.length = k
  clen : cs.length = N
  head : ord[0]? = some at_
  lt : ∀ j ∈ ord, j < N
  full : ∀ j < N, cs.getD j false = true ↔ j ∈ ord
  new_ : ∀ (m : Nat) (i : Nat), ord[m]? = some i → i ∉ ord.take m
  side : ∀ (m : Nat) (i : Nat), 0 < m → ord[m]? = some i → ∃ (p : Nat) (j : Nat), p < m ∧ ord[p]? = some j ∧ j ∈ nbs W H i
theorem setB_getD (cs : List Bool) (a j : Nat) (ha : a < cs.length) : (cs.set a true).getD j false = if j = a then true else cs.getD j false := by
  rw [List.getD_eq_getElem?_getD, List.getElem?_set, List.getD_eq_getElem?_getD]
  by_cases h : a = j
  · subst h
    simp [ha]
  · rw [if_neg h, if_neg (fun e => h e.symm)]
theorem Inv.start {W H N at_ : Nat} (h : at_ < N) : Inv W H N at_ 1 [at_] ((List.replicate N false).set at_ true) := by
  refine ⟨rfl, by simp, rfl, fun j hj => by rw [List.mem_singleton.1 hj]; exact h, fun j hj => ?_, fun m i hm => ?_, fun m i h0 hm => ?_⟩
  · rw [setB_getD _ _ _ (by simpa using h)]
    by_cases c : j = at_
    · simp [c]
    · rw [if_neg c, List.getD_eq_getElem?_getD, List.getElem?_replicate, if_pos hj]
      simp [c]
  · cases m with
    | zero => simp
    | succ m => simp at hm
  · cases m with
    | zero => omega
    | succ m => simp at hm
theorem Inv.step {W H N at_ k i : Nat} {ord : List Nat} {cs : List Bool} (h : Inv W H N at_ k ord cs) (hi : i < N) (hc : cs.getD i false = false) (ht : touch cs (nbs W H i) = true) (hnb : ∀ b ∈ nbs W H i, b < N) : Inv W H N at_ (k + 1) (ord ++ [i]) (cs.set i true) := by
  have hni : i ∉ ord := fun hm => by
    have := (h.full i hi).2 hm
    rw [hc] at this
    cases this
  have h0 : 0 < ord.length := by
    have := h.head
    rw [List.getElem?_eq_some_iff] at this
    exact this.1
  have get : ∀ m, m < ord.length → (ord ++ [i])[m]? = ord[m]? := fun m hm => List.getElem?_append_left hm
  refine ⟨by rw [List.length_append, h.len]; rfl, by rw [List.length_set]; exact h.clen, by rw [get 0 h0]; exact h.head, fun j hj => ?_, fun j hj => ?_, fun m q hm => ?_, fun m q hm0 hm => ?_⟩
  · rcases List.mem_append.1 hj with c | c
    · exact h.lt j c
    · rw [List.mem_singleton.1 c]; exact hi
  · rw [setB_getD _ _ _ (by rw [h.clen]; exact hi), List.mem_append, List.mem_singleton]
    by_cases c : j = i
    · simp [c]
    · rw [if_neg c, h.full j hj]; simp [c]
  · by_cases c : m < ord.length
    · rw [get m c] at hm
      rw [List.take_append_of_le_length (by omega)]
      exact h.new_ m q hm
    · have hml : m = ord.length := by
        have := (List.getElem?_eq_some_iff.1 hm).1
        simp at this
        omega
      subst hml
      rw [List.getElem?_append_right (Nat.le_refl _)] at hm
      simp at hm
      subst hm
      rw [List.take_left]
      exact hni
  · by_cases c : m < ord.length
    · rw [get m c] at hm
      obtain ⟨p, j, h1, h2, h3⟩ := h.side m q hm0 hm
      exact ⟨p, j, h1, by rw [get p (by omega)]; exact h2, h3⟩
    · have hml : m = ord.length := by
        have := (List.getElem?_eq_some_iff.1 hm).1
        simp at this
        omega
      subst hml
      rw [List.getElem?_append_right (Nat.le_refl _)] at hm
      simp at hm
      subst hm
      unfold touch at ht
      obtain ⟨j, hj, hfj⟩ := List.any_eq_true.1 ht
      have hm := (h.full j (hnb j hj)).1 hfj
      obtain ⟨p, hp, e⟩ := List.getElem_of_mem hm
      exact ⟨p, j, hp, by rw [get p hp, List.getElem?_eq_getElem hp, e], hj⟩
/-- As many as are told apart. -/
theorem pigeons : ∀ (m n : Nat) (f : Nat → Nat), (∀ i < n, f i < m) → (∀ i < n, ∀ j < n, f i = f j → i = j) → n ≤ m := by
  intro m
  induction m with
  | zero =>
    intro n f h _
    rcases Nat.eq_zero_or_pos n with e | e
    · omega
    · exact absurd (h 0 e) (by omega)
  | succ m ih =>
    intro n f h hi
    by_cases hx : ∃ i, i < n ∧ f i = m
    · obtain ⟨i0, hi0, hf0⟩ := hx
      have := ih (n - 1) (fun j => f (if j < i0 then j else j + 1)) (fun j hj => by
        have hne : f (if j < i0 then j else j + 1) ≠ m := fun e => by
          have := hi _ (by split <;> omega) _ hi0 (e.trans hf0.symm)
          split at this <;> omega
        have := h (if j < i0 then j else j + 1) (by split <;> omega)
        show f (if j < i0 then j else j + 1) < m
        omega) (fun a ha b hb e => by
        have := hi _ (by split <;> omega) _ (by split <;> omega) e
        split at this <;> split at this <;> omega)
      omega
    · have := ih n f (fun i hin => by
        have h1 := h i hin
        rcases Nat.lt_or_ge (f i) m with h2 | h2
        · exact h2
        · exact absurd ⟨i, hin, by omega⟩ hx) hi
      omega
/-- While not all are invaded, one is beside. -/
theorem Inv.more {W H N at_ k : Nat} {ord : List Nat} {cs : List Bool} (h : Inv W H N at_ k ord cs) (hW : 1 ≤ W) (hP : W * H = N) (hk : k < N) : ∃ i < N, cs.getD i false = false ∧ touch cs (nbs W H i) = true := by
  have ha : at_ ∈ ord := List.mem_of_getElem? h.head
  have hex : ∃ b < N, b ∉ ord := by
    apply Classical.byContradiction
    intro hno
    have hall : ∀ b < N, b ∈ ord := fun b hb => Classical.byContradiction fun hn => hno ⟨b, hb, hn⟩
    have := pigeons ord.length N (fun i => ord.idxOf i) (fun i hi => List.idxOf_lt_length_iff.2 (hall i hi)) (fun i hi j hj e => by
      have h1 := List.getElem_idxOf (List.idxOf_lt_length_iff.2 (hall i hi))
      have h2 := List.getElem_idxOf (List.idxOf_lt_length_iff.2 (hall j hj))
      have e' : ord.idxOf i = ord.idxOf j := e
      rw [← h1, ← h2]
      congr 1)
    rw [h.len] at this
    omega
  obtain ⟨b, hb, hnb⟩ := hex
  have hfb : cs.getD b false = false := by
    cases hc : cs.getD b false with
    | false => rfl
    | true => exact absurd ((h.full b hb).1 hc) hnb
  exact edge_ex hW hP (h.lt _ ha) ((h.full _ (h.lt _ ha)).2 ha) hb hfb
/-- The cells whose weight is less than v. -/
def lessB (xs : List Nat) (v : Int) : List Bool := xs.map fun y => decide (fval y < v)
theorem lessB_len (xs : List Nat) (v : Int) : (lessB xs v).length = xs.length := by simp [lessB]
theorem lessB_take (xs : List Nat) (v : Int) (k : Nat) {x : Nat} (h : xs[k]? = some x) : lessB (xs.take (k + 1)) v = lessB (xs.take k) v ++ [decide (fval x < v)] := by
  unfold lessB
  rw [List.take_add_one, h, List.map_append]
  rfl
theorem lessB_get {xs : List Nat} {v : Int} {j : Nat} (h : (lessB xs v).getD j false = true) : j < xs.length ∧ fval (xs.getD j 0) < v := by
  unfold lessB at h
  rw [List.getD_eq_getElem?_getD, List.getElem?_map] at h
  by_cases c : j < xs.length
  · rw [List.getElem?_eq_getElem c] at h
    rw [List.getD_eq_getElem?_getD, List.getElem?_eq_getElem c]
    exact ⟨c, by simpa using h⟩
  · rw [List.getElem?_eq_none (by omega)] at h
    simp at h
theorem cutB_yes {xs : List Nat} {v : Int} {j : Nat} (hj : j < xs.length) (h : fval (xs.getD j 0) ≤ v) : (cutB xs v).getD j false = true := by
  unfold cutB
  rw [List.getD_eq_getElem?_getD, List.getElem?_map, List.getElem?_eq_getElem hj]
  rw [List.getD_eq_getElem?_getD, List.getElem?_eq_getElem hj] at h
  simpa using h
theorem lk_mono {cs cs' : List Bool} {nb : Nat → List Nat} (hs : ∀ j, cs.getD j false = true → cs'.getD j false = true) {a b : Nat} (h : Lk cs nb a b) : Lk cs' nb a b := by
  induction h with
  | refl h => exact .refl (hs _ h)
  | step _ hb hc ih => exact .step ih hb (hs _ hc)
theorem max_of (n : Nat) (f : Nat → Int) (Q : Nat → Prop) (h : ∃ k < n, Q k) : ∃ k < n, Q k ∧ ∀ j < n, Q j → f j ≤ f k := by
  induction n with
  | zero => obtain ⟨k, hk, _⟩ := h; omega
  | succ n ih =>
    by_cases h0 : ∃ k < n, Q k
    · obtain ⟨k, hk, hq, hm⟩ := ih h0
      by_cases hn : Q n ∧ f k < f n
      · refine ⟨n, by omega, hn.1, fun j hj hqj => ?_⟩
        by_cases c : j = n
        · rw [c]; exact Int.le_refl _
        · have := hm j (by omega) hqj; omega
      · refine ⟨k, by omega, hq, fun j hj hqj => ?_⟩
        by_cases c : j = n
        · subst c
          rcases Int.lt_or_le (f k) (f j) with e | e
          · exact absurd ⟨hqj, e⟩ hn
          · exact e
        · exact hm j (by omega) hqj
    · obtain ⟨k, hk, hq⟩ := h
      have hkn : k = n := by
        rcases Nat.lt_or_ge k n with e | e
        · exact absurd ⟨k, e, hq⟩ h0
        · omega
      subst hkn
      refine ⟨k, by omega, hq, fun j hj hqj => ?_⟩
      by_cases c : j = k
      · rw [c]; exact Int.le_refl _
      · exact absurd ⟨j, by omega, hqj⟩ h0
/-- Below the threshold, nothing leads down. -/
theorem less_not {W N : Nat} {xs : List Nat} {nb : Nat → List Nat} (hl : xs.length = N) {j : Nat} (hb : BestTo xs (fun v => SBp (cutB xs v) W N nb) N (some j)) : ¬ SBp (lessB xs (fval (xs.getD j 0))) W N nb := by
  rintro ⟨a, b, r, h1, h2, h3, h4, l1, l2⟩
  have ha := lessB_get l1.full
  obtain ⟨k, hk, hq, hm⟩ := max_of N (fun i => fval (xs.getD i 0)) (fun i => fval (xs.getD i 0) < fval (xs.getD j 0)) ⟨a, by omega, ha.2⟩
  have hsub : ∀ i, (lessB xs (fval (xs.getD j 0))).getD i false = true → (cutB xs (fval (xs.getD k 0))).getD i false = true := fun i hi => by
    have h5 := lessB_get hi
    exact cutB_yes h5.1 (hm i (by omega) h5.2)
  have hp : SBp (cutB xs (fval (xs.getD k 0))) W N nb := ⟨a, b, r, h1, h2, h3, h4, lk_mono hsub l1, lk_mono hsub l2⟩
  have := (hb.2.2 k hk hp).1
  omega
end Go.Proofs.Ytbkacmklgkgamaa

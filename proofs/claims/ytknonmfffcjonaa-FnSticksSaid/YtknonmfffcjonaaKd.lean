/- Plain law (no program): what the law on groups of fields adds up. Conditions: as each says. -/
import Derived.Test.YtknonmfffcjonaaKe
import Derived.Laws.MakeOwn
namespace Go.Proofs.Ytknonmfffcjonaa

theorem countP_sumN {α : Type} (p : α → Bool) (d : α) (l : List α) : l.countP p = sumN (fun i => b1 (p (l.getD i d))) l.length := by
  have key : ∀ n, n ≤ l.length → (l.take n).countP p = sumN (fun i => b1 (p (l.getD i d))) n := by
    intro n
    induction n with
    | zero => intro _; rfl
    | succ n ih =>
      intro h
      have hn : l[n]? = some l[n] := List.getElem?_eq_getElem (by omega)
      rw [List.take_add_one, hn, List.countP_append, ih (by omega)]
      show _ = sumN (fun i => b1 (p (l.getD i d))) n + b1 (p (l.getD n d))
      rw [List.getD_eq_getElem?_getD, hn]
      unfold b1
      cases h : p l[n] <;> simp [h]
  have := key l.length (Nat.le_refl _)
  rwa [List.take_length] at this
theorem made_one (v : Value) (n : Nat) : (madeCells #[v] (n * 1)).toList = List.replicate n v := by
  unfold madeCells
  refine List.ext_getElem (by simp) fun i h1 h2 => ?_
  simp [Nat.mod_one]
/-- How many full cells of the first k are of group g. -/
def cntG (cs : List Bool) (G : List Int) (g : Nat) : Nat → Nat := sumN fun i => b1 (cs.getD i false && decide (G.getD i 0 = (g : Int)))
def seenL (cs : List Bool) (G : List Int) (m k : Nat) : List Int := (List.range m).map fun g => ((cntG cs G g k : Nat) : Int)
theorem seenL_len (cs : List Bool) (G : List Int) (m k : Nat) : (seenL cs G m k).length = m := by simp [seenL]
theorem seenL_zero (cs : List Bool) (G : List Int) (m : Nat) : (seenL cs G m 0) = List.replicate m 0 := by
  refine List.ext_getElem (by simp [seenL]) fun i h1 h2 => ?_
  simp [seenL, cntG, sumN]
theorem seenL_get {cs : List Bool} {G : List Int} {m k g : Nat} (h : g < m) : (seenL cs G m k)[g]? = some ((cntG cs G g k : Nat) : Int) := by
  unfold seenL
  rw [List.getElem?_map, List.getElem?_range h]
  rfl
theorem seenL_no {cs : List Bool} {G : List Int} {m k : Nat} (h : cs.getD k false = false) : seenL cs G m (k + 1) = seenL cs G m k := by
  unfold seenL
  refine List.map_congr_left fun g _ => ?_
  show ((cntG cs G g k + b1 (cs.getD k false && decide (G.getD k 0 = (g : Int))) : Nat) : Int) = _
  rw [h]
  rfl
theorem seenL_yes {cs : List Bool} {G : List Int} {m k g : Nat} (h : cs.getD k false = true) (hg : G.getD k 0 = (g : Int)) : seenL cs G m (k + 1) = (seenL cs G m k).set g (((cntG cs G g k : Nat) : Int) + 1) := by
  refine List.ext_getElem? fun i => ?_
  have hs : ∀ i, cntG cs G i (k + 1) = cntG cs G i k + b1 (cs.getD k false && decide (G.getD k 0 = (i : Int))) := fun i => rfl
  by_cases hi : i < m
  · rw [seenL_get hi, hs i, h, hg]
    by_cases e : g = i
    · subst e
      rw [List.getElem?_set_self (by rw [seenL_len]; exact hi)]
      simp [b1]
    · have e' : ¬ ((g : Int) = (i : Int)) := by omega
      rw [List.getElem?_set_ne e, seenL_get hi]
      simp [b1, e']
  · rw [List.getElem?_eq_none (by rw [seenL_len]; omega), List.getElem?_eq_none (by rw [List.length_set, seenL_len]; omega)]
theorem cntG_le (cs : List Bool) (G : List Int) (g : Nat) : ∀ k, cntG cs G g k ≤ k
  | 0 => Nat.le_refl _
  | k + 1 => by
    have := cntG_le cs G g k
    show cntG cs G g k + b1 _ ≤ k + 1
    unfold b1
    split <;> omega
theorem seenL_all {cs : List Bool} {N : Nat} {nb : Nat → List Nat} {G Z : List Int} (h : GOk cs N nb N G Z) : seenL cs G Z.length N = Z := by
  refine List.ext_getElem? fun g => ?_
  by_cases hg : g < Z.length
  · have hz := h.size g Z[g] (List.getElem?_eq_getElem hg)
    rw [seenL_get hg, List.getElem?_eq_getElem hg]
    congr 1
    rw [hz]
    congr 1
    rw [countP_sumN _ 0 G, h.len]
    refine sumN_congr fun i hi => ?_
    cases hc : cs.getD i false with
    | true => rw [Bool.true_and]
    | false =>
      have := h.none_ i hi hc
      have e : ¬ G.getD i 0 = (g : Int) := by omega
      rw [decide_eq_false e]
      rfl
  · rw [List.getElem?_eq_none (by rw [seenL_len]; omega), List.getElem?_eq_none (by omega)]
theorem sum_full {cs : List Bool} {N : Nat} {nb : Nat → List Nat} {G Z : List Int} (h : GOk cs N nb N G Z) (hl : cs.length = N) : Z.sum = ((fullN cs N : Nat) : Int) := by
  rw [h.sum, burnt_full h hl, countP_sumN (fun b => b) false cs, hl]
  rfl
theorem sum_take_bd {n : Nat} : ∀ {l : List Int}, (∀ x ∈ l, 0 ≤ x ∧ x ≤ (n : Int)) → 0 ≤ l.sum ∧ l.sum ≤ ((l.length * n : Nat) : Int)
  | [], _ => by simp
  | x :: l, h => by
    have h1 := h x (by simp)
    have h2 := sum_take_bd (l := l) (fun y hy => h y (by simp [hy]))
    rw [List.sum_cons, List.length_cons, Nat.add_mul, Nat.one_mul]
    omega
theorem sum_take_succ {l : List Int} {k : Nat} {x : Int} (h : l[k]? = some x) : (l.take (k + 1)).sum = (l.take k).sum + x := by
  rw [List.take_add_one, h, List.sum_append]
  simp
/-- The greatest time of the full cells seen. -/
def mostTo (cs : List Bool) (T : List Int) : Nat → Int
  | 0 => -1
  | k + 1 => if cs.getD k false then (if T.getD k (-1) > mostTo cs T k then T.getD k (-1) else mostTo cs T k) else mostTo cs T k
theorem mostTo_bd {cs : List Bool} {T : List Int} {b : Int} (hb : -1 ≤ b) : ∀ {k : Nat}, (∀ i < k, T.getD i (-1) ≤ b) → -1 ≤ mostTo cs T k ∧ mostTo cs T k ≤ b
  | 0, _ => ⟨Int.le_refl _, hb⟩
  | k + 1, h => by
    have ih := mostTo_bd (cs := cs) hb (k := k) (fun i hi => h i (by omega))
    have := h k (by omega)
    unfold mostTo
    split
    · split <;> omega
    · exact ih
theorem mostTo_ge {cs : List Bool} {T : List Int} : ∀ {k i : Nat}, i < k → cs.getD i false = true → T.getD i (-1) ≤ mostTo cs T k
  | k + 1, i, hi, hc => by
    unfold mostTo
    by_cases e : i = k
    · subst e
      rw [if_pos hc]
      split <;> omega
    · have ih := mostTo_ge (T := T) (k := k) (i := i) (by omega) hc
      split
      · split <;> omega
      · exact ih
theorem mostTo_all {cs : List Bool} {N W : Nat} {nb : Nat → List Nat} {T : List Int} {last : Int} (h : TSt cs N nb W T [] last) : mostTo cs T N = last := by
  have hle : ∀ a < N, T.getD a (-1) ≤ last := fun a ha => by
    have h1 := h.bd a ha
    have h2 := h.now_ a ha
    have h3 : ¬ T.getD a (-1) = last + 1 := fun e => by simpa using h2.1 e
    omega
  have hb := mostTo_bd (cs := cs) h.lo hle
  have hl := h.lo
  by_cases h0 : 0 ≤ last
  · obtain ⟨j, hj, e⟩ := h.mem h0
    have := mostTo_ge (T := T) (k := N) hj (h.full j hj (by omega))
    omega
  · omega
theorem time_le {cs : List Bool} {N W : Nat} {nb : Nat → List Nat} {T : List Int} {last : Int} (h : TSt cs N nb W T [] last) {a : Nat} (ha : a < N) : -1 ≤ T.getD a (-1) ∧ T.getD a (-1) ≤ last := by
  have h1 := h.bd a ha
  have h2 := h.now_ a ha
  have h3 : ¬ T.getD a (-1) = last + 1 := fun e => by simpa using h2.1 e
  omega
/-- Neighbours burn nearly at the same time. -/
theorem time_near {cs : List Bool} {N W : Nat} {nb : Nat → List Nat} {T : List Int} {last : Int} (hnb : ∀ j < N, ∀ b ∈ nb j, b < N) (hsym : ∀ j < N, ∀ b ∈ nb j, j ∈ nb b) (h : TSt cs N nb W T [] last) {a b : Nat} (ha : a < N) (hb : b ∈ nb a) (ca : cs.getD a false = true) (cb : cs.getD b false = true) :
    (T.getD a (-1) < 0 ↔ T.getD b (-1) < 0) ∧ T.getD a (-1) ≤ T.getD b (-1) + 1 ∧ T.getD b (-1) ≤ T.getD a (-1) + 1 := by
  have hbN := hnb a ha b hb
  have t1 := time_le h ha
  have t2 := time_le h hbN
  by_cases h0 : 0 ≤ T.getD a (-1)
  · have q := h.side a ha h0 t1.2 b hb cb
    have q2 := h.side b hbN q.1 t2.2 a (hsym a ha b hb) ca
    omega
  · by_cases h1 : 0 ≤ T.getD b (-1)
    · have q := h.side b hbN h1 t2.2 a (hsym a ha b hb) ca
      omega
    · omega
theorem rt_mem {W H i : Nat} (h : (i + 1) % W ≠ 0) (hW : 1 ≤ W) : i + 1 ∈ nbs W H i := by
  have hlt := Nat.mod_lt i (show W > 0 by omega)
  have e : i % W + 1 < W := by
    by_cases e : i % W + 1 < W
    · exact e
    · exfalso
      apply h
      have e' : i % W + 1 = W := by omega
      rw [Nat.add_mod]
      by_cases w1 : W = 1
      · subst w1; omega
      · rw [Nat.mod_eq_of_lt (show 1 < W by omega), e', Nat.mod_self]
  unfold nbs nb3
  simp [e]
theorem dn_mem {W H N i : Nat} (hN : W * H = N) (h : i + W < N) : i + W ∈ nbs W H i := by
  unfold nbs nb4
  rw [hN]
  simp [h]
theorem sideN_le (cs : List Bool) (W N : Nat) : ∀ k, sideN cs W N k ≤ 2 * k
  | 0 => Nat.le_refl _
  | k + 1 => by
    have := sideN_le cs W N k
    show sideN cs W N k + (if cs.getD k false then b1 (rtN cs W N k) + b1 (dnN cs W N k) else 0) ≤ 2 * (k + 1)
    unfold b1
    split
    · split <;> split <;> omega
    · omega
end Go.Proofs.Ytknonmfffcjonaa

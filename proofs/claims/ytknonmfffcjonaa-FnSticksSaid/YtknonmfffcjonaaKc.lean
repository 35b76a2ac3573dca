/- Plain law (no program): the first path goes from the last row to the first, one time earlier each cell; there is one just if a group goes from above to below; edges are told by neighbours. Conditions: as each says. -/
import Derived.Test.YtknonmfffcjonaaKb
import Derived.Test.YtknonmfffcjonaaSym
import Derived.Test.YtknonmfffcjonaaSs
import Derived.Test.YtknonmfffcjonaaFs
namespace Go.Proofs.Ytknonmfffcjonaa

section
variable {cs : List Bool} {N : Nat} {nb : Nat → List Nat}
theorem path_at {T : List Int} (hnb : ∀ j < N, ∀ b ∈ nb j, b < N) (hd : Down nb T) : ∀ (f a : Nat), a < N → T.getD a (-1) = (f : Int) → ∀ k, k ≤ f → ∃ p, (pathTo T nb f a)[k]? = some p ∧ p < N ∧ T.getD p (-1) = ((f - k : Nat) : Int) := by
  intro f
  induction f with
  | zero =>
    intro a ha ht k hk
    obtain rfl : k = 0 := by omega
    exact ⟨a, rfl, ha, by rw [ht]⟩
  | succ f ih =>
    intro a ha ht k hk
    have h1 := nextOf_spec (bs := nb a) (hd a (by rw [ht]; omega))
    cases k with
    | zero => exact ⟨a, rfl, ha, by rw [ht]; rfl⟩
    | succ k =>
      obtain ⟨p, q1, q2, q3⟩ := ih (nextOf T (nb a) a) (hnb a ha _ h1.1) (by rw [h1.2, ht]; omega) k (by omega)
      refine ⟨p, ?_, q2, by rw [q3]; omega⟩
      unfold pathTo
      rw [List.getElem?_cons_succ]
      exact q1
theorem bestTo_some {T : List Int} {R : Nat} : ∀ {k : Nat}, (∃ x, x < k ∧ 0 ≤ T.getD (R + x) (-1)) → 0 ≤ bestTo T R k
  | 0, ⟨x, hx, _⟩ => absurd hx (by omega)
  | k + 1, ⟨x, hx, h⟩ => by
    unfold bestTo
    split
    · omega
    · rename_i hn
      by_cases e : x = k
      · subst e
        by_cases hb : bestTo T R x < 0
        · exact absurd ⟨h, .inl hb⟩ hn
        · omega
      · exact bestTo_some ⟨x, by omega, h⟩
theorem bestTo_ge {T : List Int} {R : Nat} : ∀ {k : Nat}, 0 ≤ bestTo T R k → (R : Int) ≤ bestTo T R k
  | 0, h => by unfold bestTo at h; omega
  | k + 1, h => by
    unfold bestTo at h ⊢
    split
    · omega
    · rename_i hn
      rw [if_neg hn] at h
      exact bestTo_ge h
/-- A cell that burns is of a group of the first row. -/
theorem top_of {W : Nat} {T G Z : List Int} {last : Int} (hnb : ∀ j < N, ∀ b ∈ nb j, b < N) (hg : GOk cs N nb N G Z) (ht : TSt cs N nb W T [] last) (hd : Down nb T) : ∀ (f a : Nat), a < N → T.getD a (-1) = (f : Int) → ∃ i, i < N ∧ i < W ∧ cs.getD i false = true ∧ G.getD i 0 = G.getD a 0 := by
  intro f
  induction f with
  | zero =>
    intro a ha h
    obtain ⟨q1, q2⟩ := (ht.top a ha).1 (by rw [h]; rfl)
    exact ⟨a, ha, q1, q2, rfl⟩
  | succ f ih =>
    intro a ha h
    obtain ⟨b, hb, hbt⟩ := hd a (by rw [h]; omega)
    have hbN := hnb a ha b hb
    obtain ⟨i, i1, i2, i3, i4⟩ := ih b hbN (by rw [hbt, h]; omega)
    have hca := ht.full a ha (by rw [h]; omega)
    have hcb := ht.full b hbN (by rw [hbt, h]; omega)
    have := hg.side a ha (hg.some_ a ha ha hca) b hb hcb
    exact ⟨i, i1, i2, i3, i4.trans this⟩
theorem burn_link {W : Nat} {T G Z : List Int} {last : Int} (hnb : ∀ j < N, ∀ b ∈ nb j, b < N) (hsym : ∀ j < N, ∀ b ∈ nb j, j ∈ nb b) (hg : GOk cs N nb N G Z) (ht : TSt cs N nb W T [] last) {j k : Nat} (hj : j < N) (hk : k < N) (h0 : 0 ≤ G.getD j 0) (he : G.getD j 0 = G.getD k 0) :
    0 ≤ T.getD j (-1) ↔ 0 ≤ T.getD k (-1) := by
  obtain ⟨r, hr, l1, l2⟩ := hg.link j hj k hk h0 he
  have hle : ∀ a < N, T.getD a (-1) ≤ last := fun a ha => by
    have h1 := ht.bd a ha
    have h2 := ht.now_ a ha
    have h3 : ¬ T.getD a (-1) = last + 1 := fun e => by simpa using h2.1 e
    omega
  have hcl : ∀ a < N, ∀ b ∈ nb a, cs.getD a false = true → cs.getD b false = true → (0 ≤ T.getD a (-1) ↔ 0 ≤ T.getD b (-1)) := fun a ha b hb ca cb =>
    ⟨fun h => (ht.side a ha h (hle a ha) b hb cb).1, fun h => (ht.side b (hnb a ha b hb) h (hle b (hnb a ha b hb)) a (hsym a ha b hb) ca).1⟩
  exact (l1.iff (Pr := fun a => 0 ≤ T.getD a (-1)) hnb hcl hr).symm.trans (l2.iff (Pr := fun a => 0 ≤ T.getD a (-1)) hnb hcl hr)
/-- There is a first path just if a group goes from above to below. -/
theorem spans_path {W : Nat} {T G Z : List Int} {last : Int} (hW : W ≤ N) (hnb : ∀ j < N, ∀ b ∈ nb j, b < N) (hsym : ∀ j < N, ∀ b ∈ nb j, j ∈ nb b) (hg : GOk cs N nb N G Z) (ht : TSt cs N nb W T [] last) (hd : Down nb T) :
    fpOk T W N = decide (0 < (spansTo G W Z.length).length) := by
  have hlen := hg.len
  unfold fpOk
  rw [Bool.eq_iff_iff, decide_eq_true_eq, decide_eq_true_eq]
  have hsp : 0 < (spansTo G W Z.length).length ↔ ∃ g, g < Z.length ∧ spanned G W g = true := by
    unfold spansTo
    rw [List.length_map, List.length_pos_iff_exists_mem]
    simp only [List.mem_filter, List.mem_range]
  rw [hsp]
  constructor
  · intro h
    obtain ⟨b1, b2, b3⟩ := bestTo_bd T (N - W) W
    have hge := bestTo_ge h
    have hT := b3 h
    obtain ⟨a, ea⟩ : ∃ a : Nat, bestTo T (N - W) W = (a : Int) := ⟨(bestTo T (N - W) W).toNat, by omega⟩
    rw [ea] at b2 hge hT
    rw [Int.toNat_natCast] at hT
    have haN : a < N := by omega
    obtain ⟨f, hf⟩ : ∃ f : Nat, T.getD a (-1) = (f : Int) := ⟨(T.getD a (-1)).toNat, by omega⟩
    obtain ⟨i, i1, i2, i3, i4⟩ := top_of hnb hg ht hd f a haN hf
    have hgi := hg.some_ i i1 i1 i3
    have hgh := hg.hi i i1
    obtain ⟨g, eg⟩ : ∃ g : Nat, G.getD i 0 = (g : Int) := ⟨(G.getD i 0).toNat, by omega⟩
    refine ⟨g, by omega, ?_⟩
    unfold spanned
    rw [Bool.and_eq_true, decide_eq_true_eq, decide_eq_true_eq]
    constructor
    · refine List.mem_of_getElem? (i := i) ?_
      rw [List.getElem?_take_of_lt i2, List.getElem?_eq_getElem (by omega), ← eg, getD_lt (by omega)]
    · refine List.mem_of_getElem? (i := a - (N - W)) ?_
      rw [List.getElem?_drop, hlen, show N - W + (a - (N - W)) = a by omega, List.getElem?_eq_getElem (by omega), ← eg, i4, getD_lt (by omega)]
  · rintro ⟨g, hgz, hs⟩
    unfold spanned at hs
    rw [Bool.and_eq_true, decide_eq_true_eq, decide_eq_true_eq] at hs
    obtain ⟨i, hi⟩ := List.getElem?_of_mem hs.1
    obtain ⟨j, hj⟩ := List.getElem?_of_mem hs.2
    have hil := (List.getElem?_eq_some_iff.1 hi).1
    rw [List.length_take] at hil
    rw [List.getElem?_take_of_lt (by omega)] at hi
    have hjl := (List.getElem?_eq_some_iff.1 hj).1
    rw [List.length_drop] at hjl
    rw [List.getElem?_drop, hlen] at hj
    have gi : G.getD i 0 = (g : Int) := by rw [List.getD_eq_getElem?_getD, hi]; rfl
    have gj : G.getD (N - W + j) 0 = (g : Int) := by rw [List.getD_eq_getElem?_getD, hj]; rfl
    have hiN : i < N := by omega
    have hjN : N - W + j < N := by omega
    have hci : cs.getD i false = true := by
      cases hc : cs.getD i false with
      | true => rfl
      | false =>
        have := hg.none_ i hiN hc
        omega
    have hti : 0 ≤ T.getD i (-1) := by rw [(ht.top i hiN).2 ⟨by omega, hci⟩]; omega
    have := (burn_link hnb hsym hg ht hiN hjN (by omega) (by omega)).1 hti
    exact bestTo_some ⟨j, by omega, this⟩
end
/-- A sum over the first cells. -/
def sumN (f : Nat → Nat) : Nat → Nat
  | 0 => 0
  | n + 1 => sumN f n + f n
theorem sumN_congr {f g : Nat → Nat} : ∀ {n : Nat}, (∀ i < n, f i = g i) → sumN f n = sumN g n
  | 0, _ => rfl
  | n + 1, h => by
    show sumN f n + f n = sumN g n + g n
    rw [sumN_congr (n := n) (fun i hi => h i (by omega)), h n (by omega)]
theorem sumN_add (f g : Nat → Nat) : ∀ n, sumN (fun i => f i + g i) n = sumN f n + sumN g n
  | 0 => rfl
  | n + 1 => by
    show sumN (fun i => f i + g i) n + (f n + g n) = sumN f n + f n + (sumN g n + g n)
    rw [sumN_add f g n]
    omega
theorem sumN_zero {f : Nat → Nat} : ∀ {n : Nat}, (∀ i < n, f i = 0) → sumN f n = 0
  | 0, _ => rfl
  | n + 1, h => by
    show sumN f n + f n = 0
    rw [sumN_zero (n := n) (fun i hi => h i (by omega)), h n (by omega)]
theorem sumN_split (f : Nat → Nat) (a : Nat) : ∀ b, sumN f (a + b) = sumN f a + sumN (fun i => f (a + i)) b
  | 0 => rfl
  | b + 1 => by
    show sumN f (a + b) + f (a + b) = sumN f a + (sumN (fun i => f (a + i)) b + f (a + b))
    rw [sumN_split f a b]
    omega
theorem sumN_shift {f g : Nat → Nat} {N s : Nat} (h : ∀ i, i + s < N → g (i + s) = f i) (hg : ∀ i < s, i < N → g i = 0) (hf : ∀ i < N, N ≤ i + s → f i = 0) : sumN g N = sumN f N := by
  by_cases hs : N ≤ s
  · rw [sumN_zero fun i hi => hg i (by omega) hi, sumN_zero fun i hi => hf i hi (by omega)]
  · obtain ⟨M, rfl⟩ : ∃ M, N = s + M := ⟨N - s, by omega⟩
    have e1 : sumN g (s + M) = sumN f M := by
      rw [sumN_split g s M, sumN_zero (fun i hi => hg i hi (by omega)), Nat.zero_add]
      exact sumN_congr fun i hi => by rw [Nat.add_comm s i]; exact h i (by omega)
    have e2 : sumN f (s + M) = sumN f M := by
      rw [Nat.add_comm s M, sumN_split f M s, sumN_zero (f := fun i => f (M + i)) (fun i hi => hf (M + i) (by omega) (by omega)), Nat.add_zero]
    rw [e1, e2]
def b1 (b : Bool) : Nat := if b then 1 else 0
theorem countP_append2 (p : Nat → Bool) (a b c d : List Nat) : (a ++ b ++ c ++ d).countP p = a.countP p + b.countP p + c.countP p + d.countP p := by simp only [List.countP_append]
/-- The law's own sides of a cell: to the right and below. -/
def rtN (cs : List Bool) (W N i : Nat) : Bool := decide ((i + 1) % W ≠ 0) && decide (i + 1 < N) && cs.getD (i + 1) false
def dnN (cs : List Bool) (W N i : Nat) : Bool := decide (i + W < N) && cs.getD (i + W) false
def sideN (cs : List Bool) (W N : Nat) : Nat → Nat := sumN fun i => if cs.getD i false then b1 (rtN cs W N i) + b1 (dnN cs W N i) else 0
def fullN (cs : List Bool) : Nat → Nat := sumN fun i => b1 (cs.getD i false)
/-- How many full sides the full cells have together. -/
def nearN (cs : List Bool) (W H : Nat) : Nat → Nat := sumN fun i => if cs.getD i false then (nbs W H i).countP (fun b => cs.getD b false) else 0
theorem near_two {cs : List Bool} {W H : Nat} (hW : 1 ≤ W) : nearN cs W H (W * H) = 2 * sideN cs W (W * H) (W * H) := by
  obtain ⟨N, hN⟩ : ∃ N, W * H = N := ⟨_, rfl⟩
  rw [hN]
  obtain ⟨c, ec⟩ : ∃ c : Nat → Bool, ∀ i, cs.getD i false = c i := ⟨_, fun _ => rfl⟩
  have hmod : ∀ i, i < N → i % W + 1 < W → i + 1 < N := fun i hi h => by
    have hq : i / W < H := Nat.div_lt_of_lt_mul (by rw [hN]; exact hi)
    have h1 := Nat.mul_le_mul_left W (show i / W + 1 ≤ H from hq)
    have h2 := Nat.div_add_mod i W
    rw [Nat.mul_add, hN] at h1
    omega
  have hmod2 : ∀ i, (i + 1) % W ≠ 0 ↔ i % W + 1 < W := fun i => by
    have hlt := Nat.mod_lt i (show W > 0 by omega)
    constructor
    · intro h
      by_cases e : i % W + 1 < W
      · exact e
      · exfalso
        apply h
        have e' : i % W + 1 = W := by omega
        rw [Nat.add_mod]
        by_cases w1 : W = 1
        · subst w1; omega
        · rw [Nat.mod_eq_of_lt (show 1 < W by omega), e', Nat.mod_self]
    · intro h
      rw [mod_succ h]
      omega
  have h4 : ∀ i, i < N → (if cs.getD i false then (nbs W H i).countP (fun b => cs.getD b false) else 0) =
      (b1 (c i && (decide (W ≤ i) && c (i - W))) + b1 (c i && (decide (0 < i % W) && c (i - 1)))) + (b1 (c i && (decide (i % W + 1 < W) && c (i + 1))) + b1 (c i && (decide (i + W < N) && c (i + W)))) := fun i hi => by
    simp only [ec]
    unfold nbs nb1 nb2 nb3 nb4
    rw [hN, countP_append2]
    cases c i
    · simp [b1]
    · by_cases p1 : W ≤ i <;> by_cases p2 : 0 < i % W <;> by_cases p3 : i % W + 1 < W <;> by_cases p4 : i + W < N <;> simp [p1, p2, p3, p4, b1, List.countP_cons] <;> omega
  have hs : ∀ i, i < N → (if cs.getD i false then b1 (rtN cs W N i) + b1 (dnN cs W N i) else 0) = b1 (c i && (decide (i % W + 1 < W) && c (i + 1))) + b1 (c i && (decide (i + W < N) && c (i + W))) := fun i hi => by
    unfold rtN dnN
    simp only [ec]
    cases c i
    · simp [b1]
    · have e : (decide ((i + 1) % W ≠ 0) && decide (i + 1 < N)) = decide (i % W + 1 < W) := by
        rw [Bool.eq_iff_iff]
        simp only [Bool.and_eq_true, decide_eq_true_eq]
        rw [hmod2 i]
        exact ⟨fun h => h.1, fun h => ⟨h, hmod i hi h⟩⟩
      rw [e]
      simp
  unfold nearN sideN
  rw [sumN_congr h4, sumN_congr hs, sumN_add, sumN_add, sumN_add]
  have hu : sumN (fun i => b1 (c i && (decide (W ≤ i) && c (i - W)))) N = sumN (fun i => b1 (c i && (decide (i + W < N) && c (i + W)))) N := by
    refine sumN_shift (s := W) (fun i hi => ?_) (fun i hi _ => ?_) (fun i _ hi => ?_)
    · show b1 (c (i + W) && (decide (W ≤ i + W) && c (i + W - W))) = b1 (c i && (decide (i + W < N) && c (i + W)))
      rw [Nat.add_sub_cancel]
      have p1 : W ≤ i + W := by omega
      simp only [p1, hi, decide_true, Bool.true_and]
      rw [Bool.and_comm]
    · have p1 : ¬ W ≤ i := by omega
      simp [p1, b1]
    · have p1 : ¬ i + W < N := by omega
      simp [p1, b1]
  have hl : sumN (fun i => b1 (c i && (decide (0 < i % W) && c (i - 1)))) N = sumN (fun i => b1 (c i && (decide (i % W + 1 < W) && c (i + 1)))) N := by
    refine sumN_shift (s := 1) (fun i hi => ?_) (fun i hi _ => ?_) (fun i hiN hi => ?_)
    · show b1 (c (i + 1) && (decide (0 < (i + 1) % W) && c (i + 1 - 1))) = b1 (c i && (decide (i % W + 1 < W) && c (i + 1)))
      rw [Nat.add_sub_cancel]
      have e : decide (0 < (i + 1) % W) = decide (i % W + 1 < W) := by
        rw [Bool.eq_iff_iff]
        simp only [decide_eq_true_eq]
        rw [← hmod2 i]
        omega
      rw [e]
      cases c i <;> cases c (i + 1) <;> simp
    · obtain rfl : i = 0 := by omega
      simp [b1]
    · have p1 : ¬ i % W + 1 < W := fun h => by have := hmod i hiN h; omega
      simp [p1, b1]
  rw [hu, hl]
  omega
end Go.Proofs.Ytknonmfffcjonaa

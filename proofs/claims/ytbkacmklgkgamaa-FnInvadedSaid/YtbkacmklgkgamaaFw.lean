/- The walk of a region that draws its order, where an operation on floats may give what is not a number (and then draws from the tape): one walk of the text's order serves every order. Conditions: no call in the head; the tail is a chain behind all of the head. -/
import Derived.Test.YtbkacmklgkgamaaFf
import Derived.StillTail
import Derived.Deep.Quiet
import Derived.WalkSpells
namespace Go.Proofs.Ytbkacmklgkgamaa
open Go.RowKit

section
variable {P : Program} {ops : Array Oper} {md : Region.Mode} {C : World → Prop}

/-- What an operation may do: yield a value of S, and leave a world of the class. -/
def loUpon (C : World → Prop) (S : Value → Prop) : Result Next → Prop
  | .ok (.value u) w' => C w' ∧ S u
  | _ => False
def loAt (P : Program) (o : Oper) (a : Act) (C : World → Prop) (S : Value → Prop) (w : World) : Prop := loUpon C S ((execOp a.eval o).run P w)
def lo (P : Program) (o : Oper) (a : Act) (C : World → Prop) (K : Act → Prop) : Prop :=
  ∃ S : Value → Prop, (∃ v, S v) ∧ (∀ w, C w → loAt P o a C S w) ∧ ∀ v, S v → K (a.put o.dst v)
def wpLo (P : Program) (ops : Array Oper) (C : World → Prop) (Q : Act → Prop) : List Oper → Act → Prop
  | [], a => Q a
  | o :: rest, a => if Region.wanted o (yielded ops a.tmps) then lo P o a C (wpLo P ops C Q rest) else wpLo P ops C Q rest (a.put o.dst undef)
def loOp (P : Program) (ops : Array Oper) (C : World → Prop) (i : Nat) (K : Act → Prop) (a : Act) : Prop :=
  match ops[i]? with
  | none => K a
  | some o => if Region.wanted o (yielded ops a.tmps) then lo P o a C K else K (a.put o.dst undef)
theorem lo_mono {o : Oper} {a : Act} {K K' : Act → Prop} (h : ∀ a, K a → K' a) (hh : lo P o a C K) : lo P o a C K' :=
  let ⟨S, h1, h2, h3⟩ := hh
  ⟨S, h1, h2, fun v hv => h _ (h3 v hv)⟩
theorem loOp_mono {i : Nat} {a : Act} {K K' : Act → Prop} (h : ∀ a, K a → K' a) (hh : loOp P ops C i K a) : loOp P ops C i K' a := by
  unfold loOp at *
  cases ho : ops[i]? with
  | none =>
    rw [ho] at hh
    exact h _ hh
  | some o =>
    rw [ho] at hh
    simp only at hh ⊢
    split
    · rename_i hw
      rw [if_pos hw] at hh
      exact lo_mono h hh
    · rename_i hw
      rw [if_neg hw] at hh
      exact h _ hh
theorem wp_of_lo {o : Oper} {a : Act} {K : Act → Prop} {K' : Act → World → Prop} {Q' : Exit → Act → World → Prop} {w : World} (hw : C w) (h : ∀ a w', C w' → K a → K' a w') (hh : lo P o a C K) : o.wp P a w K' Q' := by
  obtain ⟨S, _, h2, h3⟩ := hh
  have h4 := h2 w hw
  unfold loAt at h4
  unfold Oper.wp
  generalize (execOp a.eval o).run P w = r at *
  cases r with
  | ok n w' =>
    cases n <;> simp only [loUpon] at h4
    exact h _ _ h4.1 (h3 _ h4.2)
  | halt x w' => exact h4.elim
theorem wpOp_of_lo {i : Nat} {a : Act} {K : Act → Prop} {K' : Act → World → Prop} {Q' : Exit → Act → World → Prop} {w : World} (hC : C w) (h : ∀ a w', C w' → K a → K' a w') (hh : loOp P ops C i K a) : wpOp P ops Q' i K' a w := by
  unfold loOp at hh
  unfold wpOp
  cases ho : ops[i]? with
  | none =>
    rw [ho] at hh
    exact h _ _ hC hh
  | some o =>
    rw [ho] at hh
    simp only at hh ⊢
    split
    · rename_i hw
      rw [if_pos hw] at hh
      exact .inl (wp_of_lo hC h hh)
    · rename_i hw
      rw [if_neg hw] at hh
      exact h _ _ hC hh
/-- Whatever order is picked in the head. -/
def loAny (P : Program) (md : Region.Mode) (ops : Array Oper) (C : World → Prop) (n : Nat) (L : Array Bool → Act → Prop) : Nat → Array Bool → Act → Prop
  | 0, listed, a => L listed a
  | f + 1, listed, a =>
    Region.ready md ops listed ≠ [] ∧ ∀ i ∈ Region.ready md ops listed, i < n ∧ loOp P ops C i (loAny P md ops C n L f (listed.setIfInBounds i true)) a
theorem wpAny_of_lo {n g : Nat} {L : Array Bool → Act → Prop} {Q' : Exit → Act → World → Prop} (hL : ∀ listed a w, C w → L listed a → wpAny P md ops Q' g listed a w) :
    ∀ (f : Nat) (listed : Array Bool) (a : Act) (w : World), C w → loAny P md ops C n L f listed a → wpAny P md ops Q' (f + g) listed a w
  | 0, listed, a, w, hC, h => by rw [Nat.zero_add]; exact hL _ _ _ hC h
  | f + 1, listed, a, w, hC, h => by
    rw [show f + 1 + g = (f + g) + 1 by omega]
    exact ⟨fun h0 => absurd h0 h.1, fun i hi => wpOp_of_lo hC (fun a' w' hC' h' => wpAny_of_lo hL f _ a' w' hC' h') (h.2 i hi).2⟩
/-- In this state an operation yields the values of S. -/
def GivesIn (P : Program) (ops : Array Oper) (C : World → Prop) (o : Oper) (S : Value → Prop) (a : Act) : Prop :=
  (∃ v, S v) ∧ ((Region.wanted o (yielded ops a.tmps) = true ∧ ∀ w, C w → loAt P o a C S w) ∨ (Region.wanted o (yielded ops a.tmps) = false ∧ ∀ v, S v ↔ v = undef))
theorem GivesIn.op {i : Nat} {o : Oper} {S : Value → Prop} {a : Act} (hi : ops[i]? = some o) (hy : GivesIn P ops C o S a) {K : Act → Prop} (h : ∀ v, S v → K (a.put o.dst v)) : loOp P ops C i K a := by
  unfold loOp
  rw [hi]
  simp only
  obtain ⟨hne, ⟨hw, hv⟩ | ⟨hw, hv⟩⟩ := hy
  · rw [if_pos hw]
    exact ⟨S, hne, hv, h⟩
  · rw [if_neg (by rw [hw]; decide)]
    exact h _ ((hv undef).2 rfl)
theorem GivesIn.same {o : Oper} {S : Value → Prop} {a a' : Act} (hy : GivesIn P ops C o S a) (he : execOp a'.eval o = execOp a.eval o)
    (hw : Region.wanted o (yielded ops a'.tmps) = Region.wanted o (yielded ops a.tmps)) : GivesIn P ops C o S a' := by
  unfold GivesIn loAt at *
  rw [he, hw]
  exact hy
theorem givesIn_of {i : Nat} {o : Oper} {a : Act} {K : Act → Prop} (hi : ops[i]? = some o) (h : loOp P ops C i K a) : ∃ S, GivesIn P ops C o S a ∧ ∀ v, S v → K (a.put o.dst v) := by
  unfold loOp at h
  rw [hi] at h
  simp only at h
  by_cases hw : Region.wanted o (yielded ops a.tmps) = true
  · rw [if_pos hw] at h
    obtain ⟨S, h1, h2, h3⟩ := h
    exact ⟨S, ⟨h1, .inl ⟨hw, h2⟩⟩, h3⟩
  · rw [if_neg hw] at h
    exact ⟨fun v => v = undef, ⟨⟨_, rfl⟩, .inr ⟨by simpa using hw, fun v => Iff.rfl⟩⟩, fun v hv => hv ▸ h⟩
/-- Two operations that are apart change places. -/
theorem loOp_put {j : Nat} {oi oj : Oper} {S : Value → Prop} (w0 : World) (hw0 : C w0) (hj : ops[j]? = some oj) (hap : oi.apart ops oj = true)
    (hsi : ∀ cs b, oi.op ≠ .select cs b) (hsj : ∀ cs b, oj.op ≠ .select cs b) {K : Act → Prop} {a : Act}
    (hy : GivesIn P ops C oi S a) (h : ∀ v, S v → loOp P ops C j K (a.put oi.dst v)) :
    loOp P ops C j (fun a' => GivesIn P ops C oi S a' ∧ ∀ v, S v → K (a'.put oi.dst v)) a := by
  obtain ⟨h1, h2, h3⟩ := Oper.apart_spec hap
  have keep : ∀ u, GivesIn P ops C oi S (a.put oj.dst u) := fun u => hy.same (execOp_put oi hsi a oj.dst u h3) (wanted_put oi a oj.dst u h3)
  obtain ⟨v0, hv0⟩ := hy.1
  have hexec : ∀ v, execOp (a.put oi.dst v).eval oj = execOp a.eval oj := fun v => execOp_put oj hsj a oi.dst v h1
  have hwant : ∀ v, Region.wanted oj (yielded ops (a.put oi.dst v).tmps) = Region.wanted oj (yielded ops a.tmps) := fun v => wanted_put oj a oi.dst v h1
  unfold loOp at *
  rw [hj] at *
  simp only [hwant] at *
  split
  · rename_i hw
    simp only [hw, if_true] at h
    refine ⟨fun u => ∀ v (hv : S v), Classical.choose (h v hv) u, ?_, fun w hw' => ?_, fun u hu => ⟨keep u, fun v hv => ?_⟩⟩
    · have k : ∀ v (hv : S v), loUpon C (Classical.choose (h v hv)) ((execOp a.eval oj).run P w0) := fun v hv => by
        have := (Classical.choose_spec (h v hv)).2.1 w0 hw0
        unfold loAt at this
        rw [← hexec v]
        exact this
      generalize (execOp a.eval oj).run P w0 = r at k
      cases r with
      | ok n w' =>
        cases n with
        | value u => exact ⟨u, fun v hv => (k v hv).2⟩
        | _ => exact (k v0 hv0).elim
      | halt x w' => exact (k v0 hv0).elim
    · have k : ∀ v (hv : S v), loUpon C (Classical.choose (h v hv)) ((execOp a.eval oj).run P w) := fun v hv => by
        have := (Classical.choose_spec (h v hv)).2.1 w hw'
        unfold loAt at this
        rw [← hexec v]
        exact this
      unfold loAt
      generalize (execOp a.eval oj).run P w = r at k
      cases r with
      | ok n w' =>
        cases n with
        | value u => exact ⟨(k v0 hv0).1, fun v hv => (k v hv).2⟩
        | _ => exact (k v0 hv0).elim
      | halt x w' => exact (k v0 hv0).elim
    · have := (Classical.choose_spec (h v hv)).2.2 u (hu v hv)
      rw [← Act.put_comm a v u h2]
      exact this
  · rename_i hw
    refine ⟨keep _, fun v hv => ?_⟩
    have := h v hv
    simp only [hw] at this
    rw [← Act.put_comm a v undef h2]
    exact this
theorem loAny_first {n i : Nat} {oi : Oper} {S : Value → Prop} {L : Array Bool → Act → Prop} (w0 : World) (hw0 : C w0) (hi : ops[i]? = some oi) (hsel : ∀ (j : Nat) (o : Oper) cs b, ops[j]? = some o → o.op ≠ .select cs b)
    (hs : Region.sinkB md ops n = true) (hc : Region.chainB md ops n = true) (hn : n < ops.size) (hin : i < n)
    (hdone : ∀ listed a, L listed a → ∀ j ∈ Region.ready md ops listed, n ≤ j) :
    ∀ (f : Nat) (listed : Array Bool) (a : Act), HeadInv md ops n listed →
      (∀ j oj, ops[j]? = some oj → j ≠ i → listed.getD j true = false → (∀ e ∈ oj.after, Region.binds md e = true → e.on ≠ i) → oi.apart ops oj = true) →
      i ∈ Region.ready md ops listed → GivesIn P ops C oi S a →
      (∀ v, S v → loAny P md ops C n L f (listed.setIfInBounds i true) (a.put oi.dst v)) → loAny P md ops C n L (f + 1) listed a := by
  intro f
  induction f with
  | zero =>
    intro listed a inv _ hr hy H
    have hun := (mem_ready.1 hr).1
    refine ⟨fun h => (by rw [h] at hr; cases hr), fun j hj => ?_⟩
    have hjn : j < n := by
      rcases Nat.lt_or_ge j n with h | h
      · exact h
      · exact absurd hj (tail_waits hs hc hn inv _ i rfl hin hun j h)
    refine ⟨hjn, ?_⟩
    by_cases hji : j = i
    · subst hji
      exact hy.op hi H
    · obtain ⟨v0, hv0⟩ := hy.1
      have := hdone _ _ (H v0 hv0) j (ready_mono hj hji)
      omega
  | succ f ih =>
    intro listed a inv hfree hr hy H
    have hun := (mem_ready.1 hr).1
    refine ⟨fun h => (by rw [h] at hr; cases hr), fun j hj => ?_⟩
    have hjn : j < n := by
      rcases Nat.lt_or_ge j n with h | h
      · exact h
      · exact absurd hj (tail_waits hs hc hn inv _ i rfl hin hun j h)
    refine ⟨hjn, ?_⟩
    by_cases hji : j = i
    · subst hji
      exact hy.op hi H
    · have h1 := fun v hv => ((H v hv).2 j (ready_mono hj hji)).2
      obtain ⟨hjun, oj, hoj, hall⟩ := mem_ready.1 hj
      have hnot : ∀ e ∈ oj.after, Region.binds md e = true → e.on ≠ i := fun e he hb heq => by
        have h1 := hall e he hb
        rw [heq, getD_both hun] at h1
        cases h1
      have h2 := loOp_put w0 hw0 hoj (hfree j oj hoj hji hjun hnot) (fun cs b => hsel i oi cs b hi) (fun cs b => hsel j oj cs b hoj) hy h1
      have hfree' : ∀ k ok, ops[k]? = some ok → k ≠ i → (listed.setIfInBounds j true).getD k true = false →
          (∀ e ∈ ok.after, Region.binds md e = true → e.on ≠ i) → oi.apart ops ok = true := fun k ok hk hki hun hno => by
        refine hfree k ok hk hki ?_ hno
        by_cases hjk : j = k
        · subst hjk
          exact hjun
        · rw [getD_set_ne true hjk] at hun
          exact hun
      refine loOp_mono (fun a' h3 => ih (listed.setIfInBounds j true) a' (inv.set hj hjn) hfree' (ready_mono hr (Ne.symm hji)) h3.1 (fun v hv => ?_)) h2
      rw [Array.setIfInBounds_comm _ _ hji]
      exact h3.2 v hv
theorem loAny_lex {n g : Nat} {Lq : Act → Prop} (w0 : World) (hw0 : C w0) (hsel : Region.noSelect ops = true) (hs : Region.sinkB md ops n = true) (hc : Region.chainB md ops n = true) (hn : n < ops.size) :
    ∀ (l : List Oper) (k : Nat) (listed : Array Bool) (a : Act), (∀ j, j < l.length → l[j]? = ops[k + j]?) → k + l.length = n → HeadInv md ops n listed →
    Region.lexHead md ops g l.length k listed = true → wpLo P ops C Lq l a →
    loAny P md ops C n (fun listed' a' => Region.seqB md ops g n listed' = true ∧ Lq a') l.length listed a
  | [], k, listed, a, _, hk, _, hB, h => by
    have : k = n := by simpa using hk
    subst this
    exact ⟨by simpa [Region.lexHead] using hB, h⟩
  | o :: l, k, listed, a, hl, hk, inv, hB, h => by
    have h0 : ops[k]? = some o := by simpa using (hl 0 (by simp)).symm
    simp only [List.length_cons, Region.lexHead, Bool.and_eq_true] at hB
    obtain ⟨⟨hr, hf⟩, hB'⟩ := hB
    have hkn : k < n := by simp only [List.length_cons] at hk; omega
    have hr' : k ∈ Region.ready md ops listed := by simpa using hr
    have hst : loOp P ops C k (wpLo P ops C Lq l) a := by unfold loOp; rw [h0]; exact h
    obtain ⟨S, hy, hK⟩ := givesIn_of h0 hst
    exact loAny_first w0 hw0 h0 (Region.noSelect_spec hsel) hs hc hn hkn (fun listed' a' hL => seqB_ready hL.1) l.length listed a inv (Region.free_spec h0 hf) hr' hy
      (fun v hv => loAny_lex w0 hw0 hsel hs hc hn l (k + 1) _ _ (fun j hj => by have := hl (j + 1) (by simp; omega); simpa [Nat.add_assoc, Nat.add_comm 1 j] using this) (by simp only [List.length_cons] at hk; omega) (inv.set hr' hkn) hB' (hK v hv))
/-- The head in the text's order, its float operations loose; then the tail, a plain list. -/
theorem wp_region_lo {id : Nat} {Q : Exit → Act → World → Prop} {a : Act} {w : World} {l : List Oper} (n : Nat) (hm : P.follows .mixedOrders = true) (hB : Region.lexTailB .any l.toArray n = true)
    (h : wpLo P l.toArray (fun w' => ∃ m, w' = w.drewN m) (fun a' => ∀ m, wpList P l.toArray Q (l.drop n) a' (w.drewN m)) (l.take n) a) : (Code.region id l.toArray true).wp P Q a w := by
  simp only [Region.lexTailB, Bool.and_eq_true, decide_eq_true_eq] at hB
  obtain ⟨⟨⟨⟨hsel, hn⟩, hs⟩, hc⟩, hlex⟩ := hB
  have hn' : n < l.length := by simpa using hn
  have htl : (l.take n).length = n := by simp; omega
  have hdl : (l.drop n).length = l.toArray.size - n := by simp
  have inv0 : HeadInv .any l.toArray n (Array.replicate l.toArray.size false) :=
    ⟨by simp, fun j oj _ hl => (by rw [getD_replicate_false] at hl; cases hl), fun t _ ht => getD_in (by simpa using ht) (getD_replicate_false _ _)⟩
  have H := loAny_lex (md := .any) (g := l.toArray.size - n) (C := fun w' => ∃ m, w' = w.drewN m) w ⟨0, rfl⟩ hsel hs hc hn (l.take n) 0 _ a (fun j hj => by
    have hj' : j < n := by rw [htl] at hj; exact hj
    simp [hj']) (by simpa using htl) inv0 (by rw [htl]; exact hlex) h
  refine wp_region_any hm ?_
  have := wpAny_of_lo (Q' := Q) (g := l.toArray.size - n) (fun listed a' w' hC hL => by
    obtain ⟨m, rfl⟩ := hC
    have := wpAny_of_seq (md := .any) (Q' := Q) (l.drop n) n listed a' (w.drewN m) (fun j => by simp [List.getElem?_drop]) (by rw [hdl]; exact hL.1) (hL.2 m)
    rwa [hdl] at this) _ _ _ { w with drawn := w.drawn + 1 } ⟨1, rfl⟩ H
  rw [htl, show n + (l.toArray.size - n) = l.toArray.size by omega] at this
  exact this
theorem wpLo_nil {Q : Act → Prop} {a : Act} (h : Q a) : wpLo P ops C Q [] a := h
/-- An operation that gives one value and leaves the world alone. -/
theorem lo_still {Q : Act → Prop} {rest : List Oper} {o : Oper} {a : Act} {w0 : World}
    (h : ∀ K : Act → Prop, (∀ a, wpLo P ops (fun w' => ∃ m, w' = w0.drewN m) Q rest a → K a) → if Region.wanted o (yielded ops a.tmps) then (∃ v, (∀ m, (execOp a.eval o).run P (w0.drewN m) = .ok (.value v) (w0.drewN m)) ∧ K (a.put o.dst v)) else K (a.put o.dst undef)) :
    wpLo P ops (fun w' => ∃ m, w' = w0.drewN m) Q (o :: rest) a := by
  have h' := h _ (fun _ h => h)
  unfold wpLo
  split
  · rename_i hw
    rw [if_pos hw] at h'
    obtain ⟨v, h1, h2⟩ := h'
    refine ⟨fun u => u = v, ⟨v, rfl⟩, ?_, fun u hu => hu ▸ h2⟩
    rintro _ ⟨m, rfl⟩
    unfold loAt
    rw [h1 m]
    exact ⟨⟨m, rfl⟩, rfl⟩
  · rename_i hw
    rw [if_neg hw] at h'
    exact h'
theorem run_float_op (op : BinOp) (ho : op = .add ∨ op = .sub ∨ op = .mul) {o : Oper} {t t' : TypeId} {xo yo : Operand} (hop : o.op = .binOp op t xo yo t') (a : Act) (x y : Nat) (hx : a.eval xo = .float .f32 x) (hy : a.eval yo = .float .f32 y) (w : World) :
    ∃ r m, (execOp a.eval o).run P w = .ok (.value (.float .f32 r)) (w.drewN m) ∧ FR op x y r ∧ r < 2 ^ 32 := by
  obtain ⟨r, m, h1, h2, h3⟩ := run_float_any (P := P) op ho t x y w
  refine ⟨r, m, ?_, h2, h3⟩
  unfold execOp
  rw [hop]
  rcases ho with rfl | rfl | rfl <;> simp [hx, hy, eqGuard, h1]
theorem lo_float {Q : Act → Prop} {rest : List Oper} {o : Oper} {a : Act} {w0 : World} (hgd : o.guard = none) (op : BinOp) (ho : op = .add ∨ op = .sub ∨ op = .mul) (t t' : TypeId) (xo yo : Operand) (hop : o.op = .binOp op t xo yo t')
    (x y : Nat) (hx : a.eval xo = .float .f32 x) (hy : a.eval yo = .float .f32 y)
    (h : ∀ r, FR op x y r → r < 2 ^ 32 → wpLo P ops (fun w' => ∃ m, w' = w0.drewN m) Q rest (a.put o.dst (.float .f32 r))) :
    wpLo P ops (fun w' => ∃ m, w' = w0.drewN m) Q (o :: rest) a := by
  have hw : Region.wanted o (yielded ops a.tmps) = true := by unfold Region.wanted; rw [hgd]
  unfold wpLo
  rw [if_pos hw]
  obtain ⟨r0, m0, _, h2, h3⟩ := run_float_op (P := P) op ho hop a x y hx hy w0
  refine ⟨fun v => ∃ r, v = .float .f32 r ∧ FR op x y r ∧ r < 2 ^ 32, ⟨_, r0, rfl, h2, h3⟩, ?_, ?_⟩
  · rintro _ ⟨m, rfl⟩
    obtain ⟨r, m1, k1, k2, k3⟩ := run_float_op (P := P) op ho hop a x y hx hy (w0.drewN m)
    unfold loAt
    rw [k1]
    exact ⟨⟨m + m1, World.drewN_drewN _ _ _⟩, r, rfl, k2, k3⟩
  · rintro v ⟨r, rfl, k2, k3⟩
    exact h r k2 k3
theorem wpList_float {w : World} {Q : Exit → Act → World → Prop} {rest : List Oper} {o : Oper} {a : Act} (hgd : o.guard = none) (op : BinOp) (ho : op = .add ∨ op = .sub ∨ op = .mul) (t t' : TypeId) (xo yo : Operand) (hop : o.op = .binOp op t xo yo t')
    (x y : Nat) (hx : a.eval xo = .float .f32 x) (hy : a.eval yo = .float .f32 y)
    (h : ∀ r m, FR op x y r → r < 2 ^ 32 → wpList P ops Q rest (a.put o.dst (.float .f32 r)) (w.drewN m)) : wpList P ops Q (o :: rest) a w :=
  wpList_plain hgd fun K hK => by
    obtain ⟨r, m, h1, h2, h3⟩ := run_float_op (P := P) op ho hop a x y hx hy w
    unfold Oper.wp
    rw [h1]
    exact hK _ _ (h r m h2 h3)
end
end Go.Proofs.Ytbkacmklgkgamaa

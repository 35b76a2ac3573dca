/- Plain facts on single-precision numbers, and the walk's law on their operations: what is not a number is left to the tape. Conditions: as each says. -/
import Derived.Test.YtoibgpmpngccjaaRows
import Derived.WalkKit
import Derived.WalkLawsBesides
import Derived.Laws.FloatBits
import Derived.Deep.RegionLaw
import Derived.Lib.Hide
import Derived.StillTail
import Derived.Deep.Quiet
import Derived.WalkSpells
import Derived.Test.YtoibgpmpngccjaaBlk
import Derived.Deep.QuietTactic
import Derived.BigQuiet
import Derived.Handy
namespace Go.Proofs.Ytoibgpmpngccjaa
open Go.RowKit

/-- A finite number's word. -/
def finW (x : Nat) : Bool := match Ieee.single.read x with | .number .. => true | _ => false
theorem finW_iff {x : Nat} : finW x = true ↔ ∃ s m i, Ieee.single.read x = .number s m i := by
  unfold finW
  split
  · rename_i s m i h
    exact ⟨fun _ => ⟨s, m, i, h⟩, fun _ => rfl⟩
  · rename_i h
    exact ⟨fun h => (by cases h), fun ⟨s, m, i, h'⟩ => absurd h' (h s m i)⟩
theorem fin_inf (s : Bool) : finW (Ieee.single.write (.infinity s)) = false := by cases s <;> decide
theorem not_fin {x : Nat} (h : finW x = false) : (∃ s, Ieee.single.read x = .infinity s) ∨ ∃ s t, Ieee.single.read x = .nan s t := by
  unfold finW at h
  split at h
  · cases h
  · rename_i h'
    cases hr : Ieee.single.read x with
    | number s m i => exact absurd hr (h' s m i)
    | infinity s => exact .inl ⟨s, rfl⟩
    | nan s t => exact .inr ⟨s, t, rfl⟩
/-- An operation's result in bits, where the standard tells it. -/
def fbits (op : BinOp) (x y : Nat) : Option Nat :=
  match op with
  | .add => Ieee.single.add x y
  | .sub => Ieee.single.sub x y
  | .mul => Ieee.single.mul x y
  | _ => none
/-- An operation's result, as the model gives it. -/
def FR (op : BinOp) (x y r : Nat) : Prop := fbits op x y = some r ∨ (fbits op x y = none ∧ finW r = false)
theorem FR.add {x y r : Nat} (h : FR .add x y r) : Ieee.single.add x y = some r ∨ (Ieee.single.add x y = none ∧ finW r = false) := h
theorem FR.bad {op : BinOp} {x y r : Nat} (ho : op = .add ∨ op = .sub ∨ op = .mul) (h : FR op x y r) (hb : finW x = false ∨ finW y = false) : finW r = false := by
  rcases h with h | h
  · rcases ho with rfl | rfl | rfl
    · simp only [fbits, Ieee.Format.add] at h
      rcases hb with hb | hb <;> rcases not_fin hb with ⟨s, e⟩ | ⟨s, t, e⟩
      · rw [e] at h
        cases hy : Ieee.single.read y <;> rw [hy] at h <;> simp [Ieee.Datum.sum] at h
        · subst h; exact fin_inf s
        · obtain ⟨_, h⟩ := h
          subst h; exact fin_inf _
      · rw [e] at h
        simp [Ieee.Datum.sum] at h
      · rw [e] at h
        cases hx : Ieee.single.read x <;> rw [hx] at h <;> simp [Ieee.Datum.sum] at h
        · subst h; exact fin_inf s
        · obtain ⟨_, h⟩ := h
          subst h; exact fin_inf _
      · rw [e] at h
        cases hx : Ieee.single.read x <;> rw [hx] at h <;> simp [Ieee.Datum.sum] at h
    · simp only [fbits, Ieee.Format.sub] at h
      rcases hb with hb | hb <;> rcases not_fin hb with ⟨s, e⟩ | ⟨s, t, e⟩
      · rw [e] at h
        cases hy : Ieee.single.read y <;> rw [hy] at h <;> simp [Ieee.Datum.sum, Ieee.Datum.opposite] at h
        · subst h; exact fin_inf s
        · obtain ⟨_, h⟩ := h
          subst h; exact fin_inf _
      · rw [e] at h
        simp [Ieee.Datum.sum, Ieee.Datum.opposite] at h
      · rw [e] at h
        cases hx : Ieee.single.read x <;> rw [hx] at h <;> simp [Ieee.Datum.sum, Ieee.Datum.opposite] at h
        · subst h; exact fin_inf _
        · obtain ⟨_, h⟩ := h
          subst h; exact fin_inf _
      · rw [e] at h
        cases hx : Ieee.single.read x <;> rw [hx] at h <;> simp [Ieee.Datum.sum, Ieee.Datum.opposite] at h
    · simp only [fbits, Ieee.Format.mul] at h
      have key : ∀ d d' : Ieee.Datum, ((∃ s, d = .infinity s) ∨ (∃ s t, d = .nan s t)) ∨ ((∃ s, d' = .infinity s) ∨ (∃ s t, d' = .nan s t)) → ∀ e, d.product d' = some e → ∃ s, e = .infinity s := by
        intro d d' hd e he
        cases d <;> cases d' <;> simp [Ieee.Datum.product] at he hd
        all_goals first
          | exact ⟨_, he.symm⟩
          | exact ⟨_, he.2.symm⟩
      cases hp : (Ieee.single.read x).product (Ieee.single.read y) with
      | none => rw [hp] at h; cases h
      | some e =>
        obtain ⟨s, rfl⟩ := key _ _ (hb.imp not_fin not_fin) e hp
        rw [hp] at h
        injection h with h
        rw [← h]
        exact fin_inf s
  · exact h.2
theorem fbits_fin {op : BinOp} (ho : op = .add ∨ op = .sub ∨ op = .mul) {x y : Nat} (hx : finW x = true) (hy : finW y = true) : ∃ r, fbits op x y = some r := by
  obtain ⟨s, m, i, ex⟩ := finW_iff.1 hx
  obtain ⟨t, n, j, ey⟩ := finW_iff.1 hy
  rcases ho with rfl | rfl | rfl
  · simp [fbits, Ieee.Format.add, ex, ey, Ieee.Datum.sum]
  · simp [fbits, Ieee.Format.sub, ex, ey, Ieee.Datum.sum, Ieee.Datum.opposite]
  · simp [fbits, Ieee.Format.mul, ex, ey, Ieee.Datum.product]
theorem FR.fin {op : BinOp} {x y r : Nat} (ho : op = .add ∨ op = .sub ∨ op = .mul) (h : FR op x y r) (hx : finW x = true) (hy : finW y = true) : fbits op x y = some r := by
  obtain ⟨q, hq⟩ := fbits_fin ho hx hy
  rcases h with h | h
  · exact h
  · rw [hq] at h; cases h.1
theorem fbits_lt {op : BinOp} {x y r : Nat} (h : fbits op x y = some r) : r < 2 ^ 32 := by
  unfold fbits at h
  split at h
  · exact Ieee.single.add_lt h
  · exact Ieee.single.sub_lt h
  · exact Ieee.single.mul_lt h
  · cases h
theorem fin_high {x : Nat} (h : 2139095040 < x % 2147483648) : finW x = false := by
  have hs : Ieee.single.signWeight = 2147483648 := by decide
  have hb : Ieee.single.binade = 8388608 := by decide
  have hi : Ieee.single.infRung = 2139095040 := by decide
  have hr : Ieee.single.read x = .nan (x / 2147483648 % 2 == 1) (x % 2147483648 - 2139095040) := by
    unfold Ieee.Format.read
    rw [hs, hb, hi]
    generalize x % 2147483648 = q at h
    simp only
    rw [if_neg (by omega), if_neg (by omega), if_neg (by omega)]
  unfold finW
  rw [hr]
theorem nan_word (t : Nat) : finW ((t % 2) * 2 ^ 31 + 0x7f800000 + 1 + (t / 2) % (2 ^ 23 - 1)) = false := by
  apply fin_high
  have h2 : (t / 2) % (2 ^ 23 - 1) < 2 ^ 23 - 1 := Nat.mod_lt _ (by decide)
  generalize (t / 2) % (2 ^ 23 - 1) = q at h2
  have p1 : (2 : Nat) ^ 31 = 2147483648 := by decide
  have p2 : (2 : Nat) ^ 23 - 1 = 8388607 := by decide
  rw [p1]
  rw [p2] at h2
  omega
theorem nan_word_lt (t : Nat) : (t % 2) * 2 ^ 31 + 0x7f800000 + 1 + (t / 2) % (2 ^ 23 - 1) < 2 ^ 32 := by
  have h2 : (t / 2) % (2 ^ 23 - 1) < 2 ^ 23 - 1 := Nat.mod_lt _ (by decide)
  omega
section
variable {P : Program}
theorem run_float_any (op : BinOp) (ho : op = .add ∨ op = .sub ∨ op = .mul) (t : TypeId) (x y : Nat) (w : World) : ∃ r m, (binOp op t (.float .f32 x) (.float .f32 y)).run P w = .ok (.float .f32 r) (w.drewN m) ∧ FR op x y r ∧ (r < 2 ^ 32) := by
  cases h : fbits op x y with
  | some r =>
    refine ⟨r, 0, ?_, .inl h, fbits_lt h⟩
    rw [show w.drewN 0 = w from rfl]
    refine run_float_arith w op t .f32 x y r ?_
    unfold floatBits
    rcases ho with rfl | rfl | rfl <;> exact h
  | none =>
    have key : ∃ r, (binOp op t (.float .f32 x) (.float .f32 y)).run P w = .ok (.float .f32 r) (w.drewN 1) ∧ finW r = false ∧ r < 2 ^ 32 := by
      refine ⟨_, ?_, nan_word (w.tape w.drawn (.nanBits .f32 x y)), nan_word_lt _⟩
      rcases ho with rfl | rfl | rfl
      · simp only [fbits] at h
        simp [binOp, Op.floatArith, FloatKind.format, h]
        rfl
      · simp only [fbits] at h
        simp [binOp, Op.floatArith, FloatKind.format, h]
        rfl
      · simp only [fbits] at h
        simp [binOp, Op.floatArith, FloatKind.format, h]
        rfl
    obtain ⟨r, h1, h2, h3⟩ := key
    exact ⟨r, 1, h1, .inr ⟨h, h2⟩, h3⟩
end
end Go.Proofs.Ytoibgpmpngccjaa

namespace Go.Proofs.Ytoibgpmpngccjaa
open Go.RowKit

section
variable {P : Program} {ops : Array Oper} {md : Region.Mode} {C : World → Prop}

/-- What an operation may do: yield a value of S, and leave a world of the class. -/
def loUpon (C : World → Prop) (S : Value → Prop) : Result Next → Prop
  | .ok (.value u) w' => C w' ∧ S u
  | _ => False
def loAt (P : Program) (o : Oper) (a : Act) (C : World → Prop) (S : Value → Prop) (w : World) : Prop := loUpon C S ((execOp a.eval o).run P w)
def lo (P : Program) (o : Oper) (a : Act) (C : World → Prop) (K : Act → Prop) : Prop :=
  ∃ S : Value → Prop, (∃ v, S v) ∧ (∀ w, C w → loAt P o a C S w) ∧ ∀ v, S v → K (a.put o.dst v)
def wpLo (P : Program) (ops : Array Oper) (C : World → Prop) (Q : Act → Prop) : List Oper → Act → Prop
  | [], a => Q a
  | o :: rest, a => if Region.wanted o (yielded ops a.tmps) then lo P o a C (wpLo P ops C Q rest) else wpLo P ops C Q rest (a.put o.dst undef)
def loOp (P : Program) (ops : Array Oper) (C : World → Prop) (i : Nat) (K : Act → Prop) (a : Act) : Prop :=
  match ops[i]? with
  | none => K a
  | some o => if Region.wanted o (yielded ops a.tmps) then lo P o a C K else K (a.put o.dst undef)
theorem lo_mono {o : Oper} {a : Act} {K K' : Act → Prop} (h : ∀ a, K a → K' a) (hh : lo P o a C K) : lo P o a C K' :=
  let ⟨S, h1, h2, h3⟩ := hh
  ⟨S, h1, h2, fun v hv => h _ (h3 v hv)⟩
theorem loOp_mono {i : Nat} {a : Act} {K K' : Act → Prop} (h : ∀ a, K a → K' a) (hh : loOp P ops C i K a) : loOp P ops C i K' a := by
  unfold loOp at *
  cases ho : ops[i]? with
  | none =>
    rw [ho] at hh
    exact h _ hh
  | some o =>
    rw [ho] at hh
    simp only at hh ⊢
    split
    · rename_i hw
      rw [if_pos hw] at hh
      exact lo_mono h hh
    · rename_i hw
      rw [if_neg hw] at hh
      exact h _ hh
theorem wp_of_lo {o : Oper} {a : Act} {K : Act → Prop} {K' : Act → World → Prop} {Q' : Exit → Act → World → Prop} {w : World} (hw : C w) (h : ∀ a w', C w' → K a → K' a w') (hh : lo P o a C K) : o.wp P a w K' Q' := by
  obtain ⟨S, _, h2, h3⟩ := hh
  have h4 := h2 w hw
  unfold loAt at h4
  unfold Oper.wp
  generalize (execOp a.eval o).run P w = r at *
  cases r with
  | ok n w' =>
    cases n <;> simp only [loUpon] at h4
    exact h _ _ h4.1 (h3 _ h4.2)
  | halt x w' => exact h4.elim
theorem wpOp_of_lo {i : Nat} {a : Act} {K : Act → Prop} {K' : Act → World → Prop} {Q' : Exit → Act → World → Prop} {w : World} (hC : C w) (h : ∀ a w', C w' → K a → K' a w') (hh : loOp P ops C i K a) : wpOp P ops Q' i K' a w := by
  unfold loOp at hh
  unfold wpOp
  cases ho : ops[i]? with
  | none =>
    rw [ho] at hh
    exact h _ _ hC hh
  | some o =>
    rw [ho] at hh
    simp only at hh ⊢
    split
    · rename_i hw
      rw [if_pos hw] at hh
      exact .inl (wp_of_lo hC h hh)
    · rename_i hw
      rw [if_neg hw] at hh
      exact h _ _ hC hh
/-- Whatever order is picked in the head. -/
def loAny (P : Program) (md : Region.Mode) (ops : Array Oper) (C : World → Prop) (n : Nat) (L : Array Bool → Act → Prop) : Nat → Array Bool → Act → Prop
  | 0, listed, a => L listed a
  | f + 1, listed, a =>
    Region.ready md ops listed ≠ [] ∧ ∀ i ∈ Region.ready md ops listed, i < n ∧ loOp P ops C i (loAny P md ops C n L f (listed.setIfInBounds i true)) a
theorem wpAny_of_lo {n g : Nat} {L : Array Bool → Act → Prop} {Q' : Exit → Act → World → Prop} (hL : ∀ listed a w, C w → L listed a → wpAny P md ops Q' g listed a w) :
    ∀ (f : Nat) (listed : Array Bool) (a : Act) (w : World), C w → loAny P md ops C n L f listed a → wpAny P md ops Q' (f + g) listed a w
  | 0, listed, a, w, hC, h => by rw [Nat.zero_add]; exact hL _ _ _ hC h
  | f + 1, listed, a, w, hC, h => by
    rw [show f + 1 + g = (f + g) + 1 by omega]
    exact ⟨fun h0 => absurd h0 h.1, fun i hi => wpOp_of_lo hC (fun a' w' hC' h' => wpAny_of_lo hL f _ a' w' hC' h') (h.2 i hi).2⟩
/-- In this state an operation yields the values of S. -/
def GivesIn (P : Program) (ops : Array Oper) (C : World → Prop) (o : Oper) (S : Value → Prop) (a : Act) : Prop :=
  (∃ v, S v) ∧ ((Region.wanted o (yielded ops a.tmps) = true ∧ ∀ w, C w → loAt P o a C S w) ∨ (Region.wanted o (yielded ops a.tmps) = false ∧ ∀ v, S v ↔ v = undef))
theorem GivesIn.op {i : Nat} {o : Oper} {S : Value → Prop} {a : Act} (hi : ops[i]? = some o) (hy : GivesIn P ops C o S a) {K : Act → Prop} (h : ∀ v, S v → K (a.put o.dst v)) : loOp P ops C i K a := by
  unfold loOp
  rw [hi]
  simp only
  obtain ⟨hne, ⟨hw, hv⟩ | ⟨hw, hv⟩⟩ := hy
  · rw [if_pos hw]
    exact ⟨S, hne, hv, h⟩
  · rw [if_neg (by rw [hw]; decide)]
    exact h _ ((hv undef).2 rfl)
theorem GivesIn.same {o : Oper} {S : Value → Prop} {a a' : Act} (hy : GivesIn P ops C o S a) (he : execOp a'.eval o = execOp a.eval o)
    (hw : Region.wanted o (yielded ops a'.tmps) = Region.wanted o (yielded ops a.tmps)) : GivesIn P ops C o S a' := by
  unfold GivesIn loAt at *
  rw [he, hw]
  exact hy
theorem givesIn_of {i : Nat} {o : Oper} {a : Act} {K : Act → Prop} (hi : ops[i]? = some o) (h : loOp P ops C i K a) : ∃ S, GivesIn P ops C o S a ∧ ∀ v, S v → K (a.put o.dst v) := by
  unfold loOp at h
  rw [hi] at h
  simp only at h
  by_cases hw : Region.wanted o (yielded ops a.tmps) = true
  · rw [if_pos hw] at h
    obtain ⟨S, h1, h2, h3⟩ := h
    exact ⟨S, ⟨h1, .inl ⟨hw, h2⟩⟩, h3⟩
  · rw [if_neg hw] at h
    exact ⟨fun v => v = undef, ⟨⟨_, rfl⟩, .inr ⟨by simpa using hw, fun v => Iff.rfl⟩⟩, fun v hv => hv ▸ h⟩
/-- Two operations that are apart change places. -/
theorem loOp_put {j : Nat} {oi oj : Oper} {S : Value → Prop} (w0 : World) (hw0 : C w0) (hj : ops[j]? = some oj) (hap : oi.apart ops oj = true)
    (hsi : ∀ cs b, oi.op ≠ .select cs b) (hsj : ∀ cs b, oj.op ≠ .select cs b) {K : Act → Prop} {a : Act}
    (hy : GivesIn P ops C oi S a) (h : ∀ v, S v → loOp P ops C j K (a.put oi.dst v)) :
    loOp P ops C j (fun a' => GivesIn P ops C oi S a' ∧ ∀ v, S v → K (a'.put oi.dst v)) a := by
  obtain ⟨h1, h2, h3⟩ := Oper.apart_spec hap
  have keep : ∀ u, GivesIn P ops C oi S (a.put oj.dst u) := fun u => hy.same (execOp_put oi hsi a oj.dst u h3) (wanted_put oi a oj.dst u h3)
  obtain ⟨v0, hv0⟩ := hy.1
  have hexec : ∀ v, execOp (a.put oi.dst v).eval oj = execOp a.eval oj := fun v => execOp_put oj hsj a oi.dst v h1
  have hwant : ∀ v, Region.wanted oj (yielded ops (a.put oi.dst v).tmps) = Region.wanted oj (yielded ops a.tmps) := fun v => wanted_put oj a oi.dst v h1
  unfold loOp at *
  rw [hj] at *
  simp only [hwant] at *
  split
  · rename_i hw
    simp only [hw, if_true] at h
    refine ⟨fun u => ∀ v (hv : S v), Classical.choose (h v hv) u, ?_, fun w hw' => ?_, fun u hu => ⟨keep u, fun v hv => ?_⟩⟩
    · have k : ∀ v (hv : S v), loUpon C (Classical.choose (h v hv)) ((execOp a.eval oj).run P w0) := fun v hv => by
        have := (Classical.choose_spec (h v hv)).2.1 w0 hw0
        unfold loAt at this
        rw [← hexec v]
        exact this
      generalize (execOp a.eval oj).run P w0 = r at k
      cases r with
      | ok n w' =>
        cases n with
        | value u => exact ⟨u, fun v hv => (k v hv).2⟩
        | _ => exact (k v0 hv0).elim
      | halt x w' => exact (k v0 hv0).elim
    · have k : ∀ v (hv : S v), loUpon C (Classical.choose (h v hv)) ((execOp a.eval oj).run P w) := fun v hv => by
        have := (Classical.choose_spec (h v hv)).2.1 w hw'
        unfold loAt at this
        rw [← hexec v]
        exact this
      unfold loAt
      generalize (execOp a.eval oj).run P w = r at k
      cases r with
      | ok n w' =>
        cases n with
        | value u => exact ⟨(k v0 hv0).1, fun v hv => (k v hv).2⟩
        | _ => exact (k v0 hv0).elim
      | halt x w' => exact (k v0 hv0).elim
    · have := (Classical.choose_spec (h v hv)).2.2 u (hu v hv)
      rw [← Act.put_comm a v u h2]
      exact this
  · rename_i hw
    refine ⟨keep _, fun v hv => ?_⟩
    have := h v hv
    simp only [hw] at this
    rw [← Act.put_comm a v undef h2]
    exact this
theorem loAny_first {n i : Nat} {oi : Oper} {S : Value → Prop} {L : Array Bool → Act → Prop} (w0 : World) (hw0 : C w0) (hi : ops[i]? = some oi) (hsel : ∀ (j : Nat) (o : Oper) cs b, ops[j]? = some o → o.op ≠ .select cs b)
    (hs : Region.sinkB md ops n = true) (hc : Region.chainB md ops n = true) (hn : n < ops.size) (hin : i < n)
    (hdone : ∀ listed a, L listed a → ∀ j ∈ Region.ready md ops listed, n ≤ j) :
    ∀ (f : Nat) (listed : Array Bool) (a : Act), HeadInv md ops n listed →
      (∀ j oj, ops[j]? = some oj → j ≠ i → listed.getD j true = false → (∀ e ∈ oj.after, Region.binds md e = true → e.on ≠ i) → oi.apart ops oj = true) →
      i ∈ Region.ready md ops listed → GivesIn P ops C oi S a →
      (∀ v, S v → loAny P md ops C n L f (listed.setIfInBounds i true) (a.put oi.dst v)) → loAny P md ops C n L (f + 1) listed a := by
  intro f
  induction f with
  | zero =>
    intro listed a inv _ hr hy H
    have hun := (mem_ready.1 hr).1
    refine ⟨fun h => (by rw [h] at hr; cases hr), fun j hj => ?_⟩
    have hjn : j < n := by
      rcases Nat.lt_or_ge j n with h | h
      · exact h
      · exact absurd hj (tail_waits hs hc hn inv _ i rfl hin hun j h)
    refine ⟨hjn, ?_⟩
    by_cases hji : j = i
    · subst hji
      exact hy.op hi H
    · obtain ⟨v0, hv0⟩ := hy.1
      have := hdone _ _ (H v0 hv0) j (ready_mono hj hji)
      omega
  | succ f ih =>
    intro listed a inv hfree hr hy H
    have hun := (mem_ready.1 hr).1
    refine ⟨fun h => (by rw [h] at hr; cases hr), fun j hj => ?_⟩
    have hjn : j < n := by
      rcases Nat.lt_or_ge j n with h | h
      · exact h
      · exact absurd hj (tail_waits hs hc hn inv _ i rfl hin hun j h)
    refine ⟨hjn, ?_⟩
    by_cases hji : j = i
    · subst hji
      exact hy.op hi H
    · have h1 := fun v hv => ((H v hv).2 j (ready_mono hj hji)).2
      obtain ⟨hjun, oj, hoj, hall⟩ := mem_ready.1 hj
      have hnot : ∀ e ∈ oj.after, Region.binds md e = true → e.on ≠ i := fun e he hb heq => by
        have h1 := hall e he hb
        rw [heq, getD_both hun] at h1
        cases h1
      have h2 := loOp_put w0 hw0 hoj (hfree j oj hoj hji hjun hnot) (fun cs b => hsel i oi cs b hi) (fun cs b => hsel j oj cs b hoj) hy h1
      have hfree' : ∀ k ok, ops[k]? = some ok → k ≠ i → (listed.setIfInBounds j true).getD k true = false →
          (∀ e ∈ ok.after, Region.binds md e = true → e.on ≠ i) → oi.apart ops ok = true := fun k ok hk hki hun hno => by
        refine hfree k ok hk hki ?_ hno
        by_cases hjk : j = k
        · subst hjk
          exact hjun
        · rw [getD_set_ne true hjk] at hun
          exact hun
      refine loOp_mono (fun a' h3 => ih (listed.setIfInBounds j true) a' (inv.set hj hjn) hfree' (ready_mono hr (Ne.symm hji)) h3.1 (fun v hv => ?_)) h2
      rw [Array.setIfInBounds_comm _ _ hji]
      exact h3.2 v hv
theorem loAny_lex {n g : Nat} {Lq : Act → Prop} (w0 : World) (hw0 : C w0) (hsel : Region.noSelect ops = true) (hs : Region.sinkB md ops n = true) (hc : Region.chainB md ops n = true) (hn : n < ops.size) :
    ∀ (l : List Oper) (k : Nat) (listed : Array Bool) (a : Act), (∀ j, j < l.length → l[j]? = ops[k + j]?) → k + l.length = n → HeadInv md ops n listed →
    Region.lexHead md ops g l.length k listed = true → wpLo P ops C Lq l a →
    loAny P md ops C n (fun listed' a' => Region.seqB md ops g n listed' = true ∧ Lq a') l.length listed a
  | [], k, listed, a, _, hk, _, hB, h => by
    have : k = n := by simpa using hk
    subst this
    exact ⟨by simpa [Region.lexHead] using hB, h⟩
  | o :: l, k, listed, a, hl, hk, inv, hB, h => by
    have h0 : ops[k]? = some o := by simpa using (hl 0 (by simp)).symm
    simp only [List.length_cons, Region.lexHead, Bool.and_eq_true] at hB
    obtain ⟨⟨hr, hf⟩, hB'⟩ := hB
    have hkn : k < n := by simp only [List.length_cons] at hk; omega
    have hr' : k ∈ Region.ready md ops listed := by simpa using hr
    have hst : loOp P ops C k (wpLo P ops C Lq l) a := by unfold loOp; rw [h0]; exact h
    obtain ⟨S, hy, hK⟩ := givesIn_of h0 hst
    exact loAny_first w0 hw0 h0 (Region.noSelect_spec hsel) hs hc hn hkn (fun listed' a' hL => seqB_ready hL.1) l.length listed a inv (Region.free_spec h0 hf) hr' hy
      (fun v hv => loAny_lex w0 hw0 hsel hs hc hn l (k + 1) _ _ (fun j hj => by have := hl (j + 1) (by simp; omega); simpa [Nat.add_assoc, Nat.add_comm 1 j] using this) (by simp only [List.length_cons] at hk; omega) (inv.set hr' hkn) hB' (hK v hv))
/-- The head in the text's order, its float operations loose; then the tail, a plain list. -/
theorem wp_region_lo {id : Nat} {Q : Exit → Act → World → Prop} {a : Act} {w : World} {l : List Oper} (n : Nat) (hm : P.follows .mixedOrders = true) (hB : Region.lexTailB .any l.toArray n = true)
    (h : wpLo P l.toArray (fun w' => ∃ m, w' = w.drewN m) (fun a' => ∀ m, wpList P l.toArray Q (l.drop n) a' (w.drewN m)) (l.take n) a) : (Code.region id l.toArray true).wp P Q a w := by
  simp only [Region.lexTailB, Bool.and_eq_true, decide_eq_true_eq] at hB
  obtain ⟨⟨⟨⟨hsel, hn⟩, hs⟩, hc⟩, hlex⟩ := hB
  have hn' : n < l.length := by simpa using hn
  have htl : (l.take n).length = n := by simp; omega
  have hdl : (l.drop n).length = l.toArray.size - n := by simp
  have inv0 : HeadInv .any l.toArray n (Array.replicate l.toArray.size false) :=
    ⟨by simp, fun j oj _ hl => (by rw [getD_replicate_false] at hl; cases hl), fun t _ ht => getD_in (by simpa using ht) (getD_replicate_false _ _)⟩
  have H := loAny_lex (md := .any) (g := l.toArray.size - n) (C := fun w' => ∃ m, w' = w.drewN m) w ⟨0, rfl⟩ hsel hs hc hn (l.take n) 0 _ a (fun j hj => by
    have hj' : j < n := by rw [htl] at hj; exact hj
    simp [hj']) (by simpa using htl) inv0 (by rw [htl]; exact hlex) h
  refine wp_region_any hm ?_
  have := wpAny_of_lo (Q' := Q) (g := l.toArray.size - n) (fun listed a' w' hC hL => by
    obtain ⟨m, rfl⟩ := hC
    have := wpAny_of_seq (md := .any) (Q' := Q) (l.drop n) n listed a' (w.drewN m) (fun j => by simp [List.getElem?_drop]) (by rw [hdl]; exact hL.1) (hL.2 m)
    rwa [hdl] at this) _ _ _ { w with drawn := w.drawn + 1 } ⟨1, rfl⟩ H
  rw [htl, show n + (l.toArray.size - n) = l.toArray.size by omega] at this
  exact this
theorem wpLo_nil {Q : Act → Prop} {a : Act} (h : Q a) : wpLo P ops C Q [] a := h
/-- An operation that gives one value and leaves the world alone. -/
theorem lo_still {Q : Act → Prop} {rest : List Oper} {o : Oper} {a : Act} {w0 : World}
    (h : ∀ K : Act → Prop, (∀ a, wpLo P ops (fun w' => ∃ m, w' = w0.drewN m) Q rest a → K a) → if Region.wanted o (yielded ops a.tmps) then (∃ v, (∀ m, (execOp a.eval o).run P (w0.drewN m) = .ok (.value v) (w0.drewN m)) ∧ K (a.put o.dst v)) else K (a.put o.dst undef)) :
    wpLo P ops (fun w' => ∃ m, w' = w0.drewN m) Q (o :: rest) a := by
  have h' := h _ (fun _ h => h)
  unfold wpLo
  split
  · rename_i hw
    rw [if_pos hw] at h'
    obtain ⟨v, h1, h2⟩ := h'
    refine ⟨fun u => u = v, ⟨v, rfl⟩, ?_, fun u hu => hu ▸ h2⟩
    rintro _ ⟨m, rfl⟩
    unfold loAt
    rw [h1 m]
    exact ⟨⟨m, rfl⟩, rfl⟩
  · rename_i hw
    rw [if_neg hw] at h'
    exact h'
theorem run_float_op (op : BinOp) (ho : op = .add ∨ op = .sub ∨ op = .mul) {o : Oper} {t t' : TypeId} {xo yo : Operand} (hop : o.op = .binOp op t xo yo t') (a : Act) (x y : Nat) (hx : a.eval xo = .float .f32 x) (hy : a.eval yo = .float .f32 y) (w : World) :
    ∃ r m, (execOp a.eval o).run P w = .ok (.value (.float .f32 r)) (w.drewN m) ∧ FR op x y r ∧ r < 2 ^ 32 := by
  obtain ⟨r, m, h1, h2, h3⟩ := run_float_any (P := P) op ho t x y w
  refine ⟨r, m, ?_, h2, h3⟩
  unfold execOp
  rw [hop]
  rcases ho with rfl | rfl | rfl <;> simp [hx, hy, eqGuard, h1]
theorem lo_float {Q : Act → Prop} {rest : List Oper} {o : Oper} {a : Act} {w0 : World} (hgd : o.guard = none) (op : BinOp) (ho : op = .add ∨ op = .sub ∨ op = .mul) (t t' : TypeId) (xo yo : Operand) (hop : o.op = .binOp op t xo yo t')
    (x y : Nat) (hx : a.eval xo = .float .f32 x) (hy : a.eval yo = .float .f32 y)
    (h : ∀ r, FR op x y r → r < 2 ^ 32 → wpLo P ops (fun w' => ∃ m, w' = w0.drewN m) Q rest (a.put o.dst (.float .f32 r))) :
    wpLo P ops (fun w' => ∃ m, w' = w0.drewN m) Q (o :: rest) a := by
  have hw : Region.wanted o (yielded ops a.tmps) = true := by unfold Region.wanted; rw [hgd]
  unfold wpLo
  rw [if_pos hw]
  obtain ⟨r0, m0, _, h2, h3⟩ := run_float_op (P := P) op ho hop a x y hx hy w0
  refine ⟨fun v => ∃ r, v = .float .f32 r ∧ FR op x y r ∧ r < 2 ^ 32, ⟨_, r0, rfl, h2, h3⟩, ?_, ?_⟩
  · rintro _ ⟨m, rfl⟩
    obtain ⟨r, m1, k1, k2, k3⟩ := run_float_op (P := P) op ho hop a x y hx hy (w0.drewN m)
    unfold loAt
    rw [k1]
    exact ⟨⟨m + m1, World.drewN_drewN _ _ _⟩, r, rfl, k2, k3⟩
  · rintro v ⟨r, rfl, k2, k3⟩
    exact h r k2 k3
theorem wpList_float {w : World} {Q : Exit → Act → World → Prop} {rest : List Oper} {o : Oper} {a : Act} (hgd : o.guard = none) (op : BinOp) (ho : op = .add ∨ op = .sub ∨ op = .mul) (t t' : TypeId) (xo yo : Operand) (hop : o.op = .binOp op t xo yo t')
    (x y : Nat) (hx : a.eval xo = .float .f32 x) (hy : a.eval yo = .float .f32 y)
    (h : ∀ r m, FR op x y r → r < 2 ^ 32 → wpList P ops Q rest (a.put o.dst (.float .f32 r)) (w.drewN m)) : wpList P ops Q (o :: rest) a w :=
  wpList_plain hgd fun K hK => by
    obtain ⟨r, m, h1, h2, h3⟩ := run_float_op (P := P) op ho hop a x y hx hy w
    unfold Oper.wp
    rw [h1]
    exact hK _ _ (h r m h2 h3)
end
end Go.Proofs.Ytoibgpmpngccjaa

namespace Go.Proofs.Ytoibgpmpngccjaa
open Go.RowKit

def fv (x : Nat) : Value := .float .f32 x
theorem ret_bool {a b : Bool} (h : a = b) : Ending.returned (.bool a) = .returned (.bool b) := by rw [h]
theorem below_drewN' {B : Nat} {a w : World} (h : Below B a w) (n : Nat) : Below B a (w.drewN n) := ⟨h.os, h.tape, h.output, h.size, h.block⟩
theorem fin_self {x r : Nat} (h : FR .sub x x r) : (FloatKind.f32.format.order r 0 == some Ordering.eq) = finW x := by
  show (Ieee.single.order r 0 == some Ordering.eq) = finW x
  have h0 : Ieee.single.read 0 = .number false 0 Ieee.single.leastPlace := by decide
  cases hx : finW x with
  | true =>
    have hb := h.fin (.inr (.inl rfl)) hx hx
    obtain ⟨s, m, i, e⟩ := finW_iff.1 hx
    simp only [fbits, Ieee.Format.sub, e, Ieee.Datum.sum, Ieee.Datum.opposite] at hb
    have ht : Ieee.signed s m (i - min i i).toNat + Ieee.signed (!s) m (i - min i i).toNat = 0 := by
      unfold Ieee.signed
      cases s <;> simp <;> omega
    rw [ht] at hb
    simp [Ieee.Format.write, Ieee.Format.nearest, Ieee.Format.word] at hb
    subst hb
    decide
  | false =>
    have hb := h.bad (.inr (.inl rfl)) (.inl hx)
    unfold Ieee.Format.order
    rw [h0]
    rcases not_fin hb with ⟨s, e⟩ | ⟨s, t, e⟩
    · rw [e]
      cases s <;> decide
    · rw [e]
      rfl
set_option maxHeartbeats 400000 in
theorem l01Finite_any (x : Nat) (w : World) : Calls Try.prog 62 #[.float .f32 x] w fun e w' => e = .returned (.bool (finW x)) ∧ ∃ m, w' = w.drewN m := by
  go_enter Try.func62, Try.ntmps62
  go_wp2_with (first
    | (refine wpList_float rfl .sub (by simp) _ _ _ _ rfl x x rfl rfl ?_; intro r m hr hlt
       have hs := fin_self hr
       generalize hw : World.drewN _ m = w1)
    | fail)
  go_ret
  exact ⟨rfl, m, hw.symm⟩
set_option maxHeartbeats 400000 in
theorem IsFinite_any (x : Nat) (w : World) : Calls Try.prog 25 #[.float .f32 x] w fun e w' => e = .returned (.bool (finW x)) ∧ ∃ m, w' = w.drewN m := by
  go_enter Try.func25, Try.ntmps25
  go_wp2_with (first
    | (refine wpList_float rfl .sub (by simp) _ _ _ _ rfl x x rfl rfl ?_; intro r m hr hlt
       have hs := fin_self hr
       generalize hw : World.drewN _ m = w1)
    | fail)
  go_ret
  exact ⟨rfl, m, hw.symm⟩
set_option maxHeartbeats 400000 in
theorem areFinite1_any (x : Nat) (w : World) : Calls Try.prog 61 #[.float .f32 x] w fun e w' => e = .returned (.bool (!finW x)) ∧ ∃ m, w' = w.drewN m := by
  have IC := Lib.hid (IsFinite_any x w)
  go_enter Try.func61, Try.ntmps61
  go_wp2_with fail
  refine IC.out.mono ?_
  rintro e w1 ⟨rfl, m, hw⟩
  go_wp2
  go_ret
  first | exact ⟨rfl, m, hw⟩ | exact ⟨rfl, m, rfl⟩
theorem all_get {xs : List Nat} {k : Nat} {x : Nat} (h : xs[k]? = some x) (hx : finW x = false) : xs.all finW = false := by
  rw [List.all_eq_false]
  exact ⟨x, List.mem_of_getElem? h, by rw [hx]; decide⟩
theorem all_take {xs : List Nat} {k : Nat} {x : Nat} (h : xs[k]? = some x) (hx : finW x = true) (ht : (xs.take k).all finW = true) : (xs.take (k + 1)).all finW = true := by
  rw [List.take_add_one, h, List.all_append, ht]
  simp [hx]
set_option maxRecDepth 100000 in
set_option maxHeartbeats 1000000 in
theorem l02Finite_any (A : Option Addr) (n c B : Nat) (xs : List Nat) (w : World) (hn : n ≤ maxLen) (hA : Rd w B 1 A n (xs.map fv)) :
    Calls Try.prog 54 #[.slice A n c] w fun e w' => e = .returned (.bool (xs.all finW)) ∧ ∃ m, w' = w.drewN m := by
  have hl : xs.length = n := by have := hA.len; simpa using this
  have HL := Lib.hid hl
  have HA := Lib.hid hA
  have FC := Lib.hid (fun x w => l01Finite_any x w)
  unfold maxLen at hn
  clear hA hl
  go_enter Try.func54, Try.ntmps54
  go_wp2
  go_loopw [3] (fun si wr => ∃ k m : Nat, k ≤ n ∧ si = .int .i64 k ∧ wr = w.drewN m ∧ Hid ((xs.take k).all finW = true)) (fun si _ => n - (intOf si).toNat)
  case atStart => exact ⟨0, 0, Nat.zero_le _, rfl, rfl, rfl⟩
  case round =>
    obtain ⟨k, m, hk, rfl, hwr, HOK⟩ := hrel
    have HWR := Lib.hid hwr
    by_cases hlt : k < n
    · obtain ⟨b, off, rfl, hbb, hc⟩ := HA.out.2 (by omega)
      obtain ⟨x, hx⟩ : ∃ x, xs[k]? = some x := ⟨_, List.getElem?_eq_getElem (by rw [HL.out]; exact hlt)⟩
      have e0 : wr.cell? ⟨b, off + k, none⟩ = some (.float .f32 x) := by rw [hwr]; exact hc _ _ (by rw [List.getElem?_map, hx]; rfl)
      have HX := Lib.hid hx
      have FX := Lib.hid (FC.out x wr)
      have hki : (k : Int) < (n : Int) := by omega
      obtain ⟨q, hq⟩ : ∃ q, finW x = q := ⟨_, rfl⟩
      have HQ := Lib.hid hq
      rw [hq] at FX
      clear hwr hc hx hq
      cases q
      · have HS := Lib.hid (all_get HX.out HQ.out)
        go_wp2_with fail
        refine FX.out.mono ?_
        rintro e w1 ⟨rfl, m1, hw1⟩
        have HW1 := Lib.hid hw1
        clear hw1
        go_wp2
        go_ret
        exact ⟨ret_bool HS.out.symm, m + m1, by rw [HW1.out, HWR.out]; exact World.drewN_drewN _ _ _⟩
      · have HS := Lib.hid (all_take HX.out HQ.out HOK.out)
        go_wp2_with fail
        refine FX.out.mono ?_
        rintro e w1 ⟨rfl, m1, hw1⟩
        have HW1 := Lib.hid hw1
        clear hw1
        go_wp2
        go_roundw
        case rel => exact ⟨k + 1, m + m1, by omega, by go_num, by rw [HW1.out, HWR.out]; exact World.drewN_drewN _ _ _, HS⟩
        case measure => simp [intOf]; omega
    · obtain rfl : k = n := by omega
      have HS : Hid (xs.all finW = true) := by
        have := HOK.out
        rwa [List.take_of_length_le (by rw [HL.out]; exact Nat.le_refl _)] at this
      clear hwr
      go_wp2
      go_ret
      exact ⟨ret_bool HS.out.symm, m, HWR.out⟩
set_option maxRecDepth 100000 in
set_option maxHeartbeats 1000000 in
theorem IndexFuncFin_any (A : Option Addr) (n c B : Nat) (xs : List Nat) (w : World) (hn : n ≤ maxLen) (hA : Rd w B 1 A n (xs.map fv)) :
    Calls Try.prog 64 #[.slice A n c, .func (.func 61) #[] #[]] w fun e w' => ∃ j : Int, e = .returned (.int .i64 j) ∧ decide (0 ≤ j) = (!xs.all finW) ∧ ∃ m, w' = w.drewN m := by
  have hl : xs.length = n := by have := hA.len; simpa using this
  have HL := Lib.hid hl
  have HA := Lib.hid hA
  have FC := Lib.hid (fun x w => areFinite1_any x w)
  unfold maxLen at hn
  clear hA hl
  go_enter Try.func64, Try.ntmps64
  go_wp2
  go_loopw [8] (fun si wr => ∃ k m : Nat, k ≤ n ∧ si = .int .i64 k ∧ wr = w.drewN m ∧ Hid ((xs.take k).all finW = true)) (fun si _ => n - (intOf si).toNat)
  case atStart => exact ⟨0, 0, Nat.zero_le _, rfl, rfl, rfl⟩
  case round =>
    obtain ⟨k, m, hk, rfl, hwr, HOK⟩ := hrel
    have HWR := Lib.hid hwr
    by_cases hlt : k < n
    · obtain ⟨b, off, rfl, hbb, hc⟩ := HA.out.2 (by omega)
      obtain ⟨x, hx⟩ : ∃ x, xs[k]? = some x := ⟨_, List.getElem?_eq_getElem (by rw [HL.out]; exact hlt)⟩
      have e0 : wr.cell? ⟨b, off + k, none⟩ = some (.float .f32 x) := by rw [hwr]; exact hc _ _ (by rw [List.getElem?_map, hx]; rfl)
      have HX := Lib.hid hx
      have FX := Lib.hid (FC.out x wr)
      have hki : (k : Int) < (n : Int) := by omega
      obtain ⟨q, hq⟩ : ∃ q, finW x = q := ⟨_, rfl⟩
      have HQ := Lib.hid hq
      rw [hq] at FX
      clear hwr hc hx hq
      cases q
      · have HS := Lib.hid (all_get HX.out HQ.out)
        go_wp2_with fail
        refine FX.out.mono ?_
        rintro e w1 ⟨rfl, m1, hw1⟩
        have HW1 := Lib.hid hw1
        clear hw1
        go_wp2
        go_ret
        exact ⟨(k : Int), rfl, by rw [HS.out]; simp, m + m1, by rw [HW1.out, HWR.out]; exact World.drewN_drewN _ _ _⟩
      · have HS := Lib.hid (all_take HX.out HQ.out HOK.out)
        go_wp2_with fail
        refine FX.out.mono ?_
        rintro e w1 ⟨rfl, m1, hw1⟩
        have HW1 := Lib.hid hw1
        clear hw1
        go_wp2
        go_roundw
        case rel => exact ⟨k + 1, m + m1, by omega, by go_num, by rw [HW1.out, HWR.out]; exact World.drewN_drewN _ _ _, HS⟩
        case measure => simp [intOf]; omega
    · obtain rfl : k = n := by omega
      have HS : Hid (xs.all finW = true) := by
        have := HOK.out
        rwa [List.take_of_length_le (by rw [HL.out]; exact Nat.le_refl _)] at this
      clear hwr
      go_wp2
      go_ret
      exact ⟨-1, rfl, by rw [HS.out]; decide, m, HWR.out⟩
set_option maxHeartbeats 1000000 in
theorem ContainsFuncFin_any (A : Option Addr) (n c B : Nat) (xs : List Nat) (w : World) (hn : n ≤ maxLen) (hA : Rd w B 1 A n (xs.map fv)) :
    Calls Try.prog 60 #[.slice A n c, .func (.func 61) #[] #[]] w fun e w' => e = .returned (.bool (!xs.all finW)) ∧ ∃ m, w' = w.drewN m := by
  have IC := Lib.hid (IndexFuncFin_any A n c B xs w hn hA)
  clear hA
  go_enter Try.func60, Try.ntmps60
  go_wp2_with fail
  refine IC.out.mono ?_
  rintro e w1 ⟨j, rfl, hj, m, hw⟩
  have HW := Lib.hid hw
  have HJ := Lib.hid hj
  clear hw hj IC
  go_wp2
  go_ret
  exact ⟨ret_bool HJ.out, m, HW.out⟩
set_option maxHeartbeats 1000000 in
theorem areFinite_any (A : Option Addr) (n c B : Nat) (xs : List Nat) (w : World) (hn : n ≤ maxLen) (hA : Rd w B 1 A n (xs.map fv)) :
    Calls Try.prog 50 #[.slice A n c] w fun e w' => e = .returned (.bool (xs.all finW)) ∧ ∃ m, w' = w.drewN m := by
  have IC := Lib.hid (ContainsFuncFin_any A n c B xs w hn hA)
  clear hA
  go_enter Try.func50, Try.ntmps50
  go_wp2_with fail
  refine IC.out.mono ?_
  rintro e w1 ⟨rfl, m, hw⟩
  have HW := Lib.hid hw
  clear hw IC
  go_wp2
  go_ret
  exact ⟨ret_bool (by simp), m, HW.out⟩
end Go.Proofs.Ytoibgpmpngccjaa

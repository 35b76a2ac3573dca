/- Words for memory (no program): a list of facts on blocks and rows that stay true as long as nothing old is written. Conditions: none. -/
import Derived.Test.YtkldgcgijkfpaaaApp
import Derived.Deep.Quiet
import Derived.Deep.QuietTactic
import Derived.BigQuiet
namespace Go.Proofs.Ytkldgcgijkfpaaa
open Go.RowKit

inductive Fact where
  | blk (g : Nat) (t : TypeId) (cs : Array Value)
  | rd (B size : Nat) (A : Option Addr) (n : Nat) (xs : List Value)
  | own (base : Nat) (e : TypeId) (size : Nat) (v : Value) (n : Nat) (xs : List Value)
  | low (w0 : World)
def Fact.at_ : Fact → World → Prop
  | .blk g t cs, w => Blk w g t cs
  | .rd B s A n xs, w => B ≤ w.heap.size ∧ Rd w B s A n xs
  | .own base e s v n xs, w => w.ownsRow base e s v n xs
  | .low w0, w => w0.heap.size ≤ w.heap.size ∧ Below w0.heap.size w0 w
theorem Fact.below {f : Fact} {w w' : World} (h : f.at_ w) (hb : Below w.heap.size w w') : f.at_ w' := by
  cases f with
  | blk g t cs => exact Blk.below (show Blk w g t cs from h) hb (Blk.lt (show Blk w g t cs from h))
  | rd B s A n xs => exact ⟨Nat.le_trans h.1 hb.size, h.2.below (hb.mono h.1)⟩
  | own base e s v n xs => exact own_below (show w.ownsRow base e s v n xs from h) hb
  | low w0 => exact ⟨Nat.le_trans h.1 hb.size, h.2.trans (hb.mono h.1)⟩
def Held (fs : List Fact) (w : World) : Prop := ∀ f ∈ fs, f.at_ w
theorem Held.nil (w : World) : Held [] w := fun _ h => absurd h (by simp)
theorem Held.below {fs : List Fact} {w w' : World} (h : Held fs w) (hb : Below w.heap.size w w') : Held fs w' := fun f hf => Fact.below (h f hf) hb
theorem Held.add {fs : List Fact} {w : World} {f : Fact} (h : Held fs w) (hf : f.at_ w) : Held (fs ++ [f]) w := fun g hg => by
  rcases List.mem_append.1 hg with h1 | h1
  · exact h g h1
  · rw [List.mem_singleton.1 h1]; exact hf
theorem Held.put {fs : List Fact} {w : World} {f : Fact} (h : Held fs w) (hf : f.at_ w) : Held (f :: fs) w := fun g hg => by
  rcases List.mem_cons.1 hg with rfl | h1
  · exact hf
  · exact h g h1
theorem Held.blk {fs : List Fact} {w : World} (h : Held fs w) (i : Nat) {g : Nat} {t : TypeId} {cs : Array Value} (hi : fs[i]? = some (.blk g t cs)) : Blk w g t cs := h _ (List.mem_of_getElem? hi)
theorem Held.rd {fs : List Fact} {w : World} (h : Held fs w) (i : Nat) {B s : Nat} {A : Option Addr} {n : Nat} {xs : List Value} (hi : fs[i]? = some (.rd B s A n xs)) : Rd w w.heap.size s A n xs :=
  have h' : (Fact.rd B s A n xs).at_ w := h _ (List.mem_of_getElem? hi)
  h'.2.more h'.1
theorem Held.own {fs : List Fact} {w : World} (h : Held fs w) (i : Nat) {base : Nat} {e : TypeId} {s : Nat} {v : Value} {n : Nat} {xs : List Value} (hi : fs[i]? = some (.own base e s v n xs)) : w.ownsRow base e s v n xs := h _ (List.mem_of_getElem? hi)
theorem Held.low {fs : List Fact} {w : World} (h : Held fs w) (i : Nat) {w0 : World} (hi : fs[i]? = some (.low w0)) : w0.heap.size ≤ w.heap.size ∧ Below w0.heap.size w0 w := h _ (List.mem_of_getElem? hi)
theorem Held.of_rd {w : World} {s : Nat} {A : Option Addr} {n : Nat} {xs : List Value} (h : Rd w w.heap.size s A n xs) : (Fact.rd w.heap.size s A n xs).at_ w := ⟨Nat.le_refl _, h⟩
theorem Held.of_own {w : World} {base : Nat} {e : TypeId} {s : Nat} {A : Option Addr} {n c : Nat} {xs : List Value} (h : w.ownsRow base e s (.slice A n c) n xs) : (Fact.rd w.heap.size s A n xs).at_ w := ⟨Nat.le_refl _, Rd.own h⟩
/-- A new block, just written. -/
theorem Held.boxed {fs : List Fact} {w w' : World} {o : Obj} (h : Held fs w) (hg : (w.alloc o).grownBy w' (some w.heap.size)) : Held fs w' := h.below (below_boxed (Below.refl _ _) (Nat.le_refl _) hg)
theorem Held.drew {fs : List Fact} {w : World} (h : Held fs w) : Held fs w.drew := h.below (Below.refl _ _).drew
theorem Held.drewN {fs : List Fact} {w : World} (h : Held fs w) (n : Nat) : Held fs (w.drewN n) := h.below ⟨rfl, rfl, rfl, Nat.le_refl _, fun _ _ => rfl⟩
/-- A write into one block that none of the facts speaks of. -/
def Fact.apart (g : Nat) : Fact → Prop
  | .blk g' _ _ => g' ≠ g
  | .rd B _ _ _ _ => B ≤ g
  | .own _ _ _ v _ _ => v.ownBlock ≠ some g
  | .low w0 => w0.heap.size ≤ g
theorem Held.grown {fs : List Fact} {w w' : World} {g : Nat} (h : Held fs w) (hg : w.grownBy w' (some g)) (ha : ∀ f ∈ fs, f.apart g) : Held fs w' := fun f hf => by
  have h1 := h f hf
  have h2 := ha f hf
  cases f with
  | blk g' t cs => exact Blk.grown (show Blk w g' t cs from h1) hg (fun e => h2 (by injection e))
  | rd B s A n xs => exact ⟨Nat.le_trans h1.1 hg.size, h1.2.below ⟨hg.os, hg.tape, hg.output, hg.size, fun k hk => hg.block k (Nat.lt_of_lt_of_le hk h1.1) (fun e => by injection e with e; have h2' : B ≤ g := h2; omega)⟩⟩
  | own base e s v n xs => exact own_grown' (show w.ownsRow base e s v n xs from h1) hg (fun e => h2 e.symm)
  | low w0 => exact ⟨Nat.le_trans h1.1 hg.size, h1.2.grown hg h1.1 (fun k e => by injection e with e; have h2' : w0.heap.size ≤ g := h2; omega)⟩
/-- All that a fact speaks of lies before block g. -/
def Fact.before (g : Nat) : Fact → Prop
  | .blk g' _ _ => g' < g
  | .rd B _ _ _ _ => B ≤ g
  | .own _ _ _ v _ _ => ∀ k, v.ownBlock = some k → k < g
  | .low w0 => w0.heap.size ≤ g
theorem Fact.before.apart {f : Fact} {g j : Nat} (h : f.before g) (hj : g ≤ j) : f.apart j := by
  cases f with
  | blk g' t cs => have h' : g' < g := h; show g' ≠ j; omega
  | rd B s A n xs => exact Nat.le_trans (show B ≤ g from h) hj
  | own base e s v n xs => exact fun e => by have := (show ∀ k, v.ownBlock = some k → k < g from h) _ e; omega
  | low w0 => exact Nat.le_trans (show w0.heap.size ≤ g from h) hj
theorem Held.before {fs : List Fact} {w : World} (h : Held fs w) : ∀ f ∈ fs, f.before w.heap.size := fun f hf => by
  have h1 := h f hf
  cases f with
  | blk g' t cs => exact Blk.lt (show Blk w g' t cs from h1)
  | rd B s A n xs => exact h1.1
  | own base e s v n xs => exact fun k e => (World.ownsRow.lt (show w.ownsRow base _ s v n xs from h1) _ e).2
  | low w0 => exact h1.1
theorem Held.apart {fs : List Fact} {w : World} (h : Held fs w) : ∀ f ∈ fs, f.apart w.heap.size := fun f hf => by
  have h1 := h f hf
  cases f with
  | blk g' t cs => have := Blk.lt (show Blk w g' t cs from h1); show g' ≠ w.heap.size; omega
  | rd B s A n xs => exact h1.1
  | own base e s v n xs => exact fun e => by have := (World.ownsRow.lt (show w.ownsRow base _ s v n xs from h1) _ e).2; omega
  | low w0 => exact h1.1
/-- A write into a row that came to be behind block g, where none of the facts speaks of anything from g on. -/
theorem held_row {fs : List Fact} {w w' : World} {g : Nat} {row : Option Nat} (h : Held fs w) (hg : w.grownBy w' row) (hr : ∀ j, row = some j → g ≤ j) (ha : ∀ f ∈ fs, f.before g) : Held fs w' := by
  cases row with
  | none => exact h.below ⟨hg.os, hg.tape, hg.output, hg.size, fun k hk => hg.block k hk (fun e => by cases e)⟩
  | some j => exact h.grown hg (fun f hf => (ha f hf).apart (hr j rfl))
/- A drawn region that begins with a call, the rest of which only reads; one walk of a drawn region over a class of worlds. -/
section
variable {P : Program}
theorem wp_region_call {id : Nat} {Q : Exit → Act → World → Prop} {a : Act} {w : World} {o : Oper} {rest : List Oper} (hm : P.follows .mixedOrders = true) (hg : o.guard = none) (hs : Region.noSelect (o :: rest).toArray = true)
    (hr : Region.ready .any (o :: rest).toArray (Array.replicate (rest.length + 1) false) = [0])
    (hl : Region.lexFrom .any (o :: rest).toArray rest.length 1 ((Array.replicate (rest.length + 1) false).setIfInBounds 0 true) = true)
    (f : FuncId) (args : Array Value) (he : (execOp a.eval o).run P w.drew = .ok (.enter f args) w.drew) (R : Ending → World → Prop) (hc : Calls P f args w.drew R)
    (h : ∀ e w', R e w' → ∃ v, e = .returned v ∧ wpQuiet P (o :: rest).toArray (fun x => ∃ n, x = w'.drewN n) (fun a'' => ∀ w'', (∃ n, w'' = w'.drewN n) → Q .normal a'' w'') rest (a.put o.dst v)) :
    (Code.region id (o :: rest).toArray true).wp P Q a w := by
  refine wp_region_any hm ?_
  have e1 : (o :: rest).toArray.size = rest.length + 1 := by simp
  rw [e1]
  refine wpAny_all hr (by simp) (fun i hi => ?_)
  obtain rfl : i = 0 := by simpa using hi
  unfold wpOp
  have e2 : (o :: rest).toArray[0]? = some o := by simp
  rw [e2]
  have hw : Region.wanted o (yielded (o :: rest).toArray a.tmps) = true := by simp [Region.wanted, hg]
  simp only [hw, if_true]
  left
  unfold Oper.wp
  have he' : (execOp a.eval o).run P { w with drawn := w.drawn + 1 } = .ok (.enter f args) { w with drawn := w.drawn + 1 } := he
  rw [he']
  refine Calls.mono (show Calls P f args { w with drawn := w.drawn + 1 } R from hc) fun e w' hr' => ?_
  obtain ⟨v, rfl, hk⟩ := h e w' hr'
  show wpAny P .any (o :: rest).toArray Q rest.length _ (a.put o.dst v) w'
  have hq := wpAnyQ_lex (P := P) (ops := (o :: rest).toArray) (C := fun x => ∃ n, x = w'.drewN n) (md := .any) (Q := fun a'' => ∀ w'', (∃ n, w'' = w'.drewN n) → Q .normal a'' w'') hs rest 1 ((Array.replicate (rest.length + 1) false).setIfInBounds 0 true) (a.put o.dst v)
    (fun j => by simp [Nat.add_comm 1 j]) hl hk
  exact wpAny_of_quiet (Q := fun a'' => ∀ w'', (∃ n, w'' = w'.drewN n) → Q .normal a'' w'') (fun _ w'' hw'' h' => h' w'' hw'') _ _ _ _ ⟨0, rfl⟩ hq
variable {ops : Array Oper} {C : World → Prop}
theorem q_read {o : Oper} {a : Act} {K : Act → Prop} (v : Value) (h : ∀ w, C w → (execOp a.eval o).run P w = .ok (.value v) w) (hk : K (a.put o.dst v)) : o.quiet P a C K :=
  ⟨v, fun w hw => by unfold Oper.quietAt; rw [h w hw]; exact ⟨rfl, rfl⟩, hk⟩
theorem q_call {o : Oper} {a : Act} {K : Act → Prop} (v : Value) (f : FuncId) (args : Array Value) (h : ∀ w, C w → (execOp a.eval o).run P w = .ok (.enter f args) w) (hc : ∀ w, C w → Calls P f args w fun e w'' => e = .returned v ∧ C w'') (hk : K (a.put o.dst v)) : o.quiet P a C K :=
  ⟨v, fun w hw => by unfold Oper.quietAt; rw [h w hw]; exact ⟨rfl, hc w hw⟩, hk⟩
theorem wp_region_class {id : Nat} {Q : Exit → Act → World → Prop} {a : Act} {w : World} {l : List Oper} (C : World → Prop) (hm : P.follows .mixedOrders = true) (hB : Region.lexB .any l.toArray = true) (hC : C w.drew)
    (h : wpQuiet P l.toArray C (fun a' => ∀ w', C w' → Q .normal a' w') l a) : (Code.region id l.toArray true).wp P Q a w :=
  wp_region_quiet (C := C) hm hB hC (by simpa using h)
end
end Go.Proofs.Ytkldgcgijkfpaaa

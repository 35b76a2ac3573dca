/- Words for memory (no program): a list of facts on blocks and rows that stay true as long as nothing old is written. Conditions: none. -/
import Derived.Test.YtbkacmklgkgamaaApp
namespace Go.Proofs.Ytbkacmklgkgamaa
open Go.RowKit

inductive Fact where
  | blk (g : Nat) (t : TypeId) (cs : Array Value)
  | rd (B size : Nat) (A : Option Addr) (n : Nat) (xs : List Value)
  | own (base : Nat) (e : TypeId) (size : Nat) (v : Value) (n : Nat) (xs : List Value)
  | low (w0 : World)
def Fact.at_ : Fact → World → Prop
  | .blk g t cs, w => Blk w g t cs
  | .rd B s A n xs, w => B ≤ w.heap.size ∧ Rd w B s A n xs
  | .own base e s v n xs, w => w.ownsRow base e s v n xs
  | .low w0, w => w0.heap.size ≤ w.heap.size ∧ Below w0.heap.size w0 w
theorem Fact.below {f : Fact} {w w' : World} (h : f.at_ w) (hb : Below w.heap.size w w') : f.at_ w' := by
  cases f with
  | blk g t cs => exact Blk.below (show Blk w g t cs from h) hb (Blk.lt (show Blk w g t cs from h))
  | rd B s A n xs => exact ⟨Nat.le_trans h.1 hb.size, h.2.below (hb.mono h.1)⟩
  | own base e s v n xs => exact own_below (show w.ownsRow base e s v n xs from h) hb
  | low w0 => exact ⟨Nat.le_trans h.1 hb.size, h.2.trans (hb.mono h.1)⟩
def Held (fs : List Fact) (w : World) : Prop := ∀ f ∈ fs, f.at_ w
theorem Held.nil (w : World) : Held [] w := fun _ h => absurd h (by simp)
theorem Held.below {fs : List Fact} {w w' : World} (h : Held fs w) (hb : Below w.heap.size w w') : Held fs w' := fun f hf => Fact.below (h f hf) hb
theorem Held.add {fs : List Fact} {w : World} {f : Fact} (h : Held fs w) (hf : f.at_ w) : Held (fs ++ [f]) w := fun g hg => by
  rcases List.mem_append.1 hg with h1 | h1
  · exact h g h1
  · rw [List.mem_singleton.1 h1]; exact hf
theorem Held.put {fs : List Fact} {w : World} {f : Fact} (h : Held fs w) (hf : f.at_ w) : Held (f :: fs) w := fun g hg => by
  rcases List.mem_cons.1 hg with rfl | h1
  · exact hf
  · exact h g h1
theorem Held.blk {fs : List Fact} {w : World} (h : Held fs w) (i : Nat) {g : Nat} {t : TypeId} {cs : Array Value} (hi : fs[i]? = some (.blk g t cs)) : Blk w g t cs := h _ (List.mem_of_getElem? hi)
theorem Held.rd {fs : List Fact} {w : World} (h : Held fs w) (i : Nat) {B s : Nat} {A : Option Addr} {n : Nat} {xs : List Value} (hi : fs[i]? = some (.rd B s A n xs)) : Rd w w.heap.size s A n xs :=
  have h' : (Fact.rd B s A n xs).at_ w := h _ (List.mem_of_getElem? hi)
  h'.2.more h'.1
theorem Held.own {fs : List Fact} {w : World} (h : Held fs w) (i : Nat) {base : Nat} {e : TypeId} {s : Nat} {v : Value} {n : Nat} {xs : List Value} (hi : fs[i]? = some (.own base e s v n xs)) : w.ownsRow base e s v n xs := h _ (List.mem_of_getElem? hi)
theorem Held.low {fs : List Fact} {w : World} (h : Held fs w) (i : Nat) {w0 : World} (hi : fs[i]? = some (.low w0)) : w0.heap.size ≤ w.heap.size ∧ Below w0.heap.size w0 w := h _ (List.mem_of_getElem? hi)
theorem Held.of_rd {w : World} {s : Nat} {A : Option Addr} {n : Nat} {xs : List Value} (h : Rd w w.heap.size s A n xs) : (Fact.rd w.heap.size s A n xs).at_ w := ⟨Nat.le_refl _, h⟩
theorem Held.of_own {w : World} {base : Nat} {e : TypeId} {s : Nat} {A : Option Addr} {n c : Nat} {xs : List Value} (h : w.ownsRow base e s (.slice A n c) n xs) : (Fact.rd w.heap.size s A n xs).at_ w := ⟨Nat.le_refl _, Rd.own h⟩
/-- A new block, just written. -/
theorem Held.boxed {fs : List Fact} {w w' : World} {o : Obj} (h : Held fs w) (hg : (w.alloc o).grownBy w' (some w.heap.size)) : Held fs w' := h.below (below_boxed (Below.refl _ _) (Nat.le_refl _) hg)
theorem Held.drew {fs : List Fact} {w : World} (h : Held fs w) : Held fs w.drew := h.below (Below.refl _ _).drew
theorem Held.drewN {fs : List Fact} {w : World} (h : Held fs w) (n : Nat) : Held fs (w.drewN n) := h.below ⟨rfl, rfl, rfl, Nat.le_refl _, fun _ _ => rfl⟩
/-- A write into one block that none of the facts speaks of. -/
def Fact.apart (g : Nat) : Fact → Prop
  | .blk g' _ _ => g' ≠ g
  | .rd B _ _ _ _ => B ≤ g
  | .own _ _ _ v _ _ => v.ownBlock ≠ some g
  | .low w0 => w0.heap.size ≤ g
theorem Held.grown {fs : List Fact} {w w' : World} {g : Nat} (h : Held fs w) (hg : w.grownBy w' (some g)) (ha : ∀ f ∈ fs, f.apart g) : Held fs w' := fun f hf => by
  have h1 := h f hf
  have h2 := ha f hf
  cases f with
  | blk g' t cs => exact Blk.grown (show Blk w g' t cs from h1) hg (fun e => h2 (by injection e))
  | rd B s A n xs => exact ⟨Nat.le_trans h1.1 hg.size, h1.2.below ⟨hg.os, hg.tape, hg.output, hg.size, fun k hk => hg.block k (Nat.lt_of_lt_of_le hk h1.1) (fun e => by injection e with e; have h2' : B ≤ g := h2; omega)⟩⟩
  | own base e s v n xs => exact own_grown' (show w.ownsRow base e s v n xs from h1) hg (fun e => h2 e.symm)
  | low w0 => exact ⟨Nat.le_trans h1.1 hg.size, h1.2.grown hg h1.1 (fun k e => by injection e with e; have h2' : w0.heap.size ≤ g := h2; omega)⟩
theorem Held.apart {fs : List Fact} {w : World} (h : Held fs w) : ∀ f ∈ fs, f.apart w.heap.size := fun f hf => by
  have h1 := h f hf
  cases f with
  | blk g' t cs => have := Blk.lt (show Blk w g' t cs from h1); show g' ≠ w.heap.size; omega
  | rd B s A n xs => exact h1.1
  | own base e s v n xs => exact fun e => by have := (World.ownsRow.lt (show w.ownsRow base _ s v n xs from h1) _ e).2; omega
  | low w0 => exact h1.1
end Go.Proofs.Ytbkacmklgkgamaa

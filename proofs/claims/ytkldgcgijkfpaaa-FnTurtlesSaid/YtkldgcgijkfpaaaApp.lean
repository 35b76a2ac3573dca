/- Words for memory (no program): an append of one element onto a row of the call's own; two rows that lie apart. Conditions: none. -/
import Derived.Test.YtkldgcgijkfpaaaBlk
import Derived.Maps.AppendAt
import Derived.OwnWalk
namespace Go.Proofs.Ytkldgcgijkfpaaa
open Go.RowKit

/-- Two slices lie in two blocks. -/
def Dis (v u : Value) : Prop := ∀ g, v.ownBlock = some g → u.ownBlock ≠ some g
theorem Dis.symm {v u : Value} (h : Dis v u) : Dis u v := fun g hu hv => h g hv hu
theorem Dis.nil (u : Value) : Dis (.slice none 0 0) u := fun g h => by simp [Value.ownBlock] at h
/-- The slice's block was there before the heap had B blocks. -/
def Old (B : Nat) (v : Value) : Prop := ∀ g, v.ownBlock = some g → g < B
theorem Old.own {w : World} {base : Nat} {e : TypeId} {size n : Nat} {v : Value} {xs : List Value} (h : w.ownsRow base e size v n xs) : Old w.heap.size v := fun g e => (h.lt g e).2
theorem Old.more {B B' : Nat} {v : Value} (h : Old B v) (hB : B ≤ B') : Old B' v := fun g e => Nat.lt_of_lt_of_le (h g e) hB
theorem Dis.of_lt {w : World} {base : Nat} {e : TypeId} {size n : Nat} {v u : Value} {xs : List Value} (h : w.ownsRow base e size v n xs) (hu : Old base u) : Dis v u := fun g hg hu' => by
  have h1 := (h.lt g hg).1
  have h2 := hu g hu'
  omega
theorem Dis.types {w : World} {base base' : Nat} {e e' : TypeId} {size size' n n' : Nat} {v u : Value} {xs ys : List Value} (h : w.ownsRow base e size v n xs) (h' : w.ownsRow base' e' size' u n' ys) (hne : e ≠ e') : Dis v u := fun g hv hu => by
  rcases own_own_ne h h' hne with h0 | h0
  · rw [h0] at hv; cases hv
  · exact h0 (hv.trans hu.symm)
theorem own_kept {w w' : World} {base : Nat} {e : TypeId} {size n : Nat} {v u : Value} {xs : List Value} (h : w.ownsRow base e size v n xs) (hg : w.grownBy w' u.ownBlock) (hd : Dis v u) : w'.ownsRow base e size v n xs := by
  refine h.kept hg ?_
  cases hv : v.ownBlock with
  | none => exact .inl rfl
  | some g => exact .inr (Ne.symm (hd g hv))

theorem own_boxed {w w' : World} {base : Nat} {e : TypeId} {size n : Nat} {v : Value} {xs : List Value} {o : Obj} (h : w.ownsRow base e size v n xs) (hg : (w.alloc o).grownBy w' (some w.heap.size)) : w'.ownsRow base e size v n xs := by
  refine (h.alloc o).kept hg (.inr fun e => ?_)
  have := (h.lt _ e).2
  omega
theorem below_boxed {a w w' : World} {B : Nat} {o : Obj} (h : Below B a w) (hB : B ≤ w.heap.size) (hg : (w.alloc o).grownBy w' (some w.heap.size)) : Below B a w' :=
  (h.alloc hB o).grown hg (by simp; omega) (fun k e => by injection e with e; omega)
theorem blk_boxed {w w' : World} {g : Nat} {t : TypeId} {cs : Array Value} {o : Obj} (h : Blk w g t cs) (hg : (w.alloc o).grownBy w' (some w.heap.size)) : Blk w' g t cs :=
  (h.alloc o).grown hg (fun e => by injection e with e; have := h.lt; omega)

section
variable {P : Program}
/-- 'append(s, x)' of one element of one cell: 'W' is the world ahead of the element's own new cell. -/
theorem wpList_append_one {W : World} {ops : Array Oper} {rest : List Oper} {o : Oper} {a : Act} {Q : Exit → Act → World → Prop} (hgd : o.guard = none) (s x : Operand) (t : TypeId)
    (ho : o.op = .call { callee := .builtin .append, args := #[s, x], argTypes := #[t, t] })
    (base : Nat) (e : TypeId) (z : Value) (bytes : Nat) (ht : P.underlying t = some (.slice e)) (hinfo : (P.info? e).map (fun i => (i.zero, i.size, i.bytes)) = some (some z, 1, bytes)) (hzs : z.cells.size = 1)
    (A : Option Addr) (n c : Nat) (xs : List Value) (hs : a.eval s = .slice A n c) (hown : W.ownsRow base e 1 (.slice A n c) n xs)
    (u : Value) (gx : Nat) (hx : a.eval x = .slice (some ⟨gx, 0, none⟩) 1 1) (hgx : gx = W.heap.size) (hu : u.oneCell' = true) (h63 : n + 1 ≤ maxLen) (hbytes : (n + 1) * bytes ≤ 140737488355328) (hbase : base ≤ W.heap.size)
    (h : ∀ A' c' w', w'.ownsRow base e 1 (.slice A' (n + 1) c') (n + 1) (xs ++ [u]) → W.grownBy w' (Value.slice A n c).ownBlock →
      (∀ v : Value, Old W.heap.size v → Dis (.slice A n c) v → Dis (.slice A' (n + 1) c') v) → wpList P ops Q rest (a.put o.dst (.slice A' (n + 1) c')) w') :
    wpList P ops Q (o :: rest) a (W.alloc (.cells #[u] e)) := by
  obtain ⟨i, hi, hz, hsize, hby⟩ := info_parts hinfo
  subst hgx
  refine wpList_append_own_at (P := P) _ hgd s x t ho base e i z 1 bytes ht hi hz hsize hby hzs (by omega) _ n xs hs (hown.alloc _) ⟨W.heap.size, 0, none⟩ 1 1 [u] hx rfl (cell_one_new _ _ _) (by simpa using hu) h63 hbytes (by simp; omega) ?_
  intro v' w' h1 h2 h3 h4
  obtain ⟨g, c', rfl, _, _⟩ := h1.form (by omega)
  refine h _ c' w' h1 (grown_trans' (World.grownBy_alloc W _ _) h2) (fun v hv hd g' hg' hv' => ?_)
  rcases h4 with h4 | h4
  · exact hd g' (h4 ▸ hg') hv'
  · rw [h4] at hg'
    have := hv g' hv'
    simp at hg'
    omega
end
end Go.Proofs.Ytkldgcgijkfpaaa

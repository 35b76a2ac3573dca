/- Walks: a copy of a field, by the program and by the reference; a struct and plain values as results. Conditions: the field has at least one cell. -/
import Derived.Test.YtbkacmklgkgamaaVd
import Derived.Test.YtbkacmklgkgamaaShelf
import Derived.Deep.RegionLaw
namespace Go.Proofs.Ytbkacmklgkgamaa
open Go.RowKit Go.Lib

section
variable {P : Program}
theorem step_store_blk {ops : Array Oper} {o : Oper} {a : Act} {w : World} {K : Act → World → Prop} {Q : Exit → Act → World → Prop} {E : Prop} (hgd : o.guard = none) (ty : TypeId) (x y : Operand) (ho : o.op = .store ty x y)
    (g f : Nat) (hx : a.eval x = .pointer (some ⟨g, f, none⟩)) (v : Value) (hy : a.eval y = v) (vs : List Value) (hv : v.cells = vs.toArray) (t : TypeId) (cur cur' : Array Value) (hg : Blk w g t cur)
    (hi : (P.info? ty).map (·.size) = some vs.length) (hfit : f + vs.length ≤ cur.size) (h1 : ∀ v ∈ vs, v.oneCell' = true) (hc : (cur.toList.take f ++ vs ++ cur.toList.drop (f + vs.length)).toArray = cur')
    (h : ∀ w', Blk w' g t cur' → w.grownBy w' (some g) → K (a.put o.dst undef) w') : if Region.wanted o (yielded ops a.tmps) = true then Oper.wp P o a w K Q else E := by
  have hw : Region.wanted o (yielded ops a.tmps) = true := by simp [Region.wanted, hgd]
  rw [if_pos hw]
  exact wp_store_blk ty x y ho g f hx v hy vs hv t cur cur' hg hi hfit h1 hc h

theorem blk_set3 {w : World} {g : Nat} {t : TypeId} {a b c : Value} (h : Blk w g t #[a, b, c]) (x y z : Value) :
    Blk (((w.setCell ⟨g, 0, none⟩ x).setCell ⟨g, 1, none⟩ y).setCell ⟨g, 2, none⟩ z) g t #[x, y, z] ∧ w.grownBy (((w.setCell ⟨g, 0, none⟩ x).setCell ⟨g, 1, none⟩ y).setCell ⟨g, 2, none⟩ z) (some g) := by
  constructor
  · have := ((h.set_ 0 x).set_ 1 y).set_ 2 z
    simpa using this
  · exact grown_set (grown_set (grown_set (World.grownBy.refl w (some g)) rfl x) rfl y) rfl z
theorem results_row2 {fn : Func} {p a : Tmp} {ty : TypeId} (h : fn.results = #[.cell p ty, .tmp a]) (tmps : Array Value) (w : World) (g : Nat) (t : TypeId) (cs : Array Value) (d : TypeDesc)
    (hp : tmps.getD p undef = .pointer (some ⟨g, 0, none⟩)) (hg : Blk w g t cs)
    (hu : P.underlying ty = some d) (hd : (match d with | .struct _ | .array _ _ => true | _ => false) = true) (hi : (P.info? ty).map (·.size) = some cs.size) (va : Value) (ha : tmps.getD a undef = va) :
    (results fn tmps).run P w = .ok (.tuple #[.agg cs, va]) w := by
  have hp' : tmps[p]?.getD undef = .pointer (some ⟨g, 0, none⟩) := by simpa using hp
  have ha' : tmps[a]?.getD undef = va := by simpa using ha
  simp [results, h, hp', ha', asAddr, run_loadVar_row w g t ty cs (0, 0) d hg hu hd hi]
theorem results_row3 {fn : Func} {p a b : Tmp} {ty : TypeId} (h : fn.results = #[.cell p ty, .tmp a, .tmp b]) (tmps : Array Value) (w : World) (g : Nat) (t : TypeId) (cs : Array Value) (d : TypeDesc)
    (hp : tmps.getD p undef = .pointer (some ⟨g, 0, none⟩)) (hg : Blk w g t cs)
    (hu : P.underlying ty = some d) (hd : (match d with | .struct _ | .array _ _ => true | _ => false) = true) (hi : (P.info? ty).map (·.size) = some cs.size) (va vb : Value) (ha : tmps.getD a undef = va) (hb : tmps.getD b undef = vb) :
    (results fn tmps).run P w = .ok (.tuple #[.agg cs, va, vb]) w := by
  have hp' : tmps[p]?.getD undef = .pointer (some ⟨g, 0, none⟩) := by simpa using hp
  have ha' : tmps[a]?.getD undef = va := by simpa using ha
  have hb' : tmps[b]?.getD undef = vb := by simpa using hb
  simp [results, h, hp', ha', hb', asAddr, run_loadVar_row w g t ty cs (0, 0) d hg hu hd hi]
theorem results_row4 {fn : Func} {p a b c : Tmp} {ty : TypeId} (h : fn.results = #[.cell p ty, .tmp a, .tmp b, .tmp c]) (tmps : Array Value) (w : World) (g : Nat) (t : TypeId) (cs : Array Value) (d : TypeDesc)
    (hp : tmps.getD p undef = .pointer (some ⟨g, 0, none⟩)) (hg : Blk w g t cs)
    (hu : P.underlying ty = some d) (hd : (match d with | .struct _ | .array _ _ => true | _ => false) = true) (hi : (P.info? ty).map (·.size) = some cs.size) (va vb vc : Value) (ha : tmps.getD a undef = va) (hb : tmps.getD b undef = vb) (hc : tmps.getD c undef = vc) :
    (results fn tmps).run P w = .ok (.tuple #[.agg cs, va, vb, vc]) w := by
  have hp' : tmps[p]?.getD undef = .pointer (some ⟨g, 0, none⟩) := by simpa using hp
  have ha' : tmps[a]?.getD undef = va := by simpa using ha
  have hb' : tmps[b]?.getD undef = vb := by simpa using hb
  have hc' : tmps[c]?.getD undef = vc := by simpa using hc
  simp [results, h, hp', ha', hb', hc', asAddr, run_loadVar_row w g t ty cs (0, 0) d hg hu hd hi]
end

/-- A field that is a copy: memory of its own. -/
def FieldOut (wd hi : Int) (N : Nat) (cs : List Bool) (w : World) (e : Ending) (w' : World) : Prop :=
  ∃ A' c', e = .returned (fieldV wd hi A' N c') ∧ w'.ownsRow w.heap.size 4 1 (.slice A' N c') N (cs.map bv) ∧ Below w.heap.size w w'

end Go.Proofs.Ytbkacmklgkgamaa

/- The contracts that the law FnMasses needs of its ring, and facts on numbers. Conditions: none. -/
import Derived.Test.YtejmpijihmmajaaGmf
import Derived.Test.YtejmpijihmmajaaGmi
import Derived.Test.YtejmpijihmmajaaIo
import Derived.Test.YtejmpijihmmajaaHk
import Derived.Test.YtejmpijihmmajaaLc
namespace Go.Proofs.Ytejmpijihmmajaa
open Go.RowKit
open Num Quick
attribute [local go_sem] run_store_fl run_store_cx

theorem ring_new (w : World) : Calls Try.prog 10 #[.int .i64 5, .int .i64 4] w fun e w' => ∃ g c, e = .returned (.tuple #[.agg #[.int .i64 5, .int .i64 4, .slice (some ⟨g, 0, none⟩) 20 c], .bool true]) ∧ Rd w' w'.heap.size 1 (some ⟨g, 0, none⟩) 20 (ring0.map bv) ∧ Below w.heap.size w w' := by
  refine (EmptyField_ok 5 4 20 w (by omega) (by omega) (by omega) (by omega) rfl).mono ?_
  rintro e w' ⟨g, c, _, rfl, ho, hb⟩
  exact ⟨g, c, rfl, Rd.own ho, hb⟩
theorem ring_flips (A A2 : Option Addr) (c n2 c2 : Nat) (cs : List Bool) (D : List Nat) (w : World) (hl : cs.length = 20) (hl2 : D.length = n2) (hn2 : n2 ≤ 100) (hD : ∀ x ∈ D, x < 20) (hi : Inc D) (hA : Rd w w.heap.size 1 A 20 (cs.map bv)) (hA2 : Rd w w.heap.size 1 A2 n2 (D.map nv)) :
    Calls Try.prog 11 #[.agg #[.int .i64 5, .int .i64 4, .slice A 20 c], .slice A2 n2 c2] w fun e w' => ∃ g c', e = .returned (.tuple #[.agg #[.int .i64 5, .int .i64 4, .slice (some ⟨g, 0, none⟩) 20 c'], .bool true]) ∧ Rd w' w'.heap.size 1 (some ⟨g, 0, none⟩) 20 ((flips D cs).map bv) ∧ Below w.heap.size w w' := by
  refine (FlipCells_ok 5 4 20 A A2 c n2 c2 cs D w (by omega) (by omega) (by omega) (by omega) rfl hl hl2 (by omega) hD hi hA hA2).mono ?_
  rintro e w' ⟨g, c, _, rfl, ho, hb⟩
  exact ⟨g, c, rfl, Rd.own ho, hb⟩
theorem ring_flips' (A A2 : Option Addr) (c n2 c2 : Nat) (cs : List Bool) (D : List Nat) (w : World) (hl : cs.length = 20) (hl2 : D.length = n2) (hn2 : n2 ≤ 100) (hD : ∀ x ∈ D, x < 20) (hi : Inc D) (hA : Rd w w.heap.size 1 A 20 (cs.map bv)) (hA2 : Rd w w.heap.size 1 A2 n2 (D.map nv)) :
    Calls Try.prog 11 #[.agg #[.int .i64 5, .int .i64 4, .slice A 20 c], .slice A2 n2 c2] w fun e w' => ∃ g c', e = .returned (.tuple #[.agg #[.int .i64 5, .int .i64 4, .slice (some ⟨g, 0, none⟩) 20 c'], .bool true]) ∧ w'.ownsRow w.heap.size 4 1 (.slice (some ⟨g, 0, none⟩) 20 c') 20 ((flips D cs).map bv) ∧ Below w.heap.size w w' := by
  refine (FlipCells_ok 5 4 20 A A2 c n2 c2 cs D w (by omega) (by omega) (by omega) (by omega) rfl hl hl2 (by omega) hD hi hA hA2).mono ?_
  rintro e w' ⟨g, c, _, rfl, ho, hb⟩
  exact ⟨g, c, rfl, ho, hb⟩
theorem set_three {w : World} {g : Nat} {t : TypeId} {a b c x y z : Value} (h : Blk w g t #[a, b, c]) : Blk (((w.setCell ⟨g, 0, none⟩ x).setCell ⟨g, 1, none⟩ y).setCell ⟨g, 2, none⟩ z) g t #[x, y, z] ∧ w.grownBy (((w.setCell ⟨g, 0, none⟩ x).setCell ⟨g, 1, none⟩ y).setCell ⟨g, 2, none⟩ z) (some g) := blk_set3 h x y z
theorem ring_holes (A : Option Addr) (c : Nat) (cs : List Bool) (w : World) (hl : cs.length = 20) (hA : Rd w w.heap.size 1 A 20 (cs.map bv)) :
    Calls Try.prog 12 #[.agg #[.int .i64 5, .int .i64 4, .slice A 20 c]] w fun e w' => ∃ x : Nat, e = .returned (.tuple #[.int .i64 (x : Int), .bool true]) ∧ Holes cs 5 4 20 x ∧ Below w.heap.size w w' := HolesOf_ok 5 4 20 A c cs w (by omega) (by omega) (by omega) (by omega) hl rfl hA
theorem all_new (w : World) : Calls Try.prog 13 #[.int .i64 4, .int .i64 4, .float .f32 1065353216, .int .i64 5] w fun e w' => ∃ g c s, e = .returned (.tuple #[.agg #[.int .i64 4, .int .i64 4, .slice (some ⟨g, 0, none⟩) 16 c], .int .i64 s, .bool true]) ∧ Rd w' w'.heap.size 1 (some ⟨g, 0, none⟩) 16 ((List.replicate 16 true).map bv) ∧ Below w.heap.size w w' := by
  refine (drawn16_ok w).mono ?_
  rintro e w' ⟨g, c, s, _, rfl, ho, hb⟩
  exact ⟨g, c, s, rfl, Rd.own ho, hb⟩
theorem all_count (A : Option Addr) (c : Nat) (w : World) (hA : Rd w w.heap.size 1 A 16 ((List.replicate 16 true).map bv)) :
    Calls Try.prog 6 #[.agg #[.int .i64 4, .int .i64 4, .slice A 16 c]] w fun e w' => e = .returned (.tuple #[.int .i64 16, .bool true]) ∧ Below w.heap.size w w' := by
  refine (CountCells_ok 4 4 16 A c _ w (by omega) (by omega) (by omega) (by omega) rfl rfl hA).mono ?_
  rintro e w' ⟨rfl, hb⟩
  refine ⟨?_, hb⟩
  rw [show (fulls (List.replicate 16 true) 16).length = 16 by decide +kernel]
  rfl
theorem ring_same (A A' : Option Addr) (c c' : Nat) (w : World) (hA : Rd w w.heap.size 1 A 20 (ring0.map bv)) (hA' : Rd w w.heap.size 1 A' 20 (ring0.map bv)) :
    Calls Try.prog 14 #[.agg #[.int .i64 5, .int .i64 4, .slice A 20 c], .agg #[.int .i64 5, .int .i64 4, .slice A' 20 c']] w fun e w' => e = .returned (.bool true) ∧ Below w.heap.size w w' :=
  SameField_same 5 4 A A' 20 c c' w.heap.size ring0 w (by unfold maxLen; omega) (Nat.le_refl _) hA hA'
theorem ring_nv : ringD.map nv = [.int .i64 0, .int .i64 1, .int .i64 2, .int .i64 3, .int .i64 4, .int .i64 5, .int .i64 9, .int .i64 10, .int .i64 14, .int .i64 15, .int .i64 16, .int .i64 17, .int .i64 18, .int .i64 19] := rfl
theorem rd_new1 (w : World) (v : Value) (t : TypeId) : Rd (w.alloc (.cells #[v] t)).drew (w.alloc (.cells #[v] t)).drew.heap.size 1 (some ⟨w.heap.size, 0, none⟩) 1 [v] := Rd.own (((Blk.new w t #[v]).drew).own (base := w.heap.size) (n := 1) (size := 1) (Nat.le_refl _) rfl (by unfold maxLen; omega))
theorem rd_new2 (w : World) (v : Value) (t : TypeId) (o : Obj) : Rd ((w.alloc (.cells #[v] t)).alloc o).drew ((w.alloc (.cells #[v] t)).alloc o).drew.heap.size 1 (some ⟨w.heap.size, 0, none⟩) 1 [v] := Rd.own ((((Blk.new w t #[v]).alloc o).drew).own (base := w.heap.size) (n := 1) (size := 1) (Nat.le_refl _) rfl (by unfold maxLen; omega))
theorem rd_new3 (w : World) (v : Value) (t : TypeId) (o : Obj) : Rd ((w.alloc o).alloc (.cells #[v] t)).drew ((w.alloc o).alloc (.cells #[v] t)).drew.heap.size 1 (some ⟨w.heap.size + 1, 0, none⟩) 1 [v] := by
  have := rd_new1 (w.alloc o) v t
  have e : (w.alloc o).heap.size = w.heap.size + 1 := by simp
  rw [e] at this
  exact this
theorem blk_three {w : World} {g : Nat} {t : TypeId} {a b c : Value} (h : Blk w g t #[a, b, c]) : w.cell? ⟨g, 0, none⟩ = some a ∧ w.frozen? ⟨g, 0, none⟩ = false ∧ w.cell? ⟨g, 1, none⟩ = some b ∧ w.frozen? ⟨g, 1, none⟩ = false ∧ w.cell? ⟨g, 2, none⟩ = some c ∧ w.frozen? ⟨g, 2, none⟩ = false :=
  ⟨h.cell 0, h.frozen 0, h.cell 1, h.frozen 1, h.cell 2, h.frozen 2⟩
theorem rInt64 (n : Int) : ∀ w : World, (convert 2 38 (.int .i64 n)).run Try.prog w = .ok (.float .f64 (floatOfInt .f64 n)) w := fun w => run_convert_int_float w _ _ _ _ _ (by rw [Try.underlying2]; rfl) Try.underlying38
theorem c001 : Fl .f64 4562254508917369340 ∧ 0 ≤ Num.fv .f64 4562254508917369340 ∧ Num.fv .f64 4562254508917369340 ≤ 1 := by
  refine ⟨?_, ?_, ?_⟩
  · show (4562254508917369340 : Nat) % FloatKind.f64.format.signWeight < FloatKind.f64.format.infRung
    decide +kernel
  · unfold Num.fv val rv p2
    decide +kernel
  · unfold Num.fv val rv p2
    decide +kernel
theorem c8 : Fl .f64 4620693217682128896 ∧ Num.fv .f64 4620693217682128896 = ((8 : Int) : Rat) := by
  refine ⟨?_, ?_⟩
  · show (4620693217682128896 : Nat) % FloatKind.f64.format.signWeight < FloatKind.f64.format.infRung
    decide +kernel
  · unfold Num.fv val rv p2
    decide +kernel
theorem gt_false {k : FloatKind} {x y : Nat} (hx : Fl k x) (hy : Fl k y) (h : Num.fv k x ≤ Num.fv k y) : (k.format.order x y == some .gt) = false := by
  by_cases c : Num.fv k x < Num.fv k y
  · rw [cmp_lt' hx hy c]; rfl
  · rw [cmp_eq' hx hy (by grind)]; rfl
theorem lt_false {k : FloatKind} {x y : Nat} (hx : Fl k x) (hy : Fl k y) (h : Num.fv k y ≤ Num.fv k x) : (k.format.order x y == some .lt) = false := by
  by_cases c : Num.fv k y < Num.fv k x
  · rw [cmp_gt' hx hy c]; rfl
  · rw [cmp_eq' hx hy (by grind)]; rfl
theorem btw_lt {z : Int} {a : Nat} (h : Btw z a) : (FloatKind.f32.format.order a 0 == some .lt) = false := lt_false h.1 c0.1 (by rw [c0.2]; exact h.2.1)
theorem mid_facts {z a : Nat} (h : Btw (z : Int) a) (hz : z ≤ 100) : ∃ x s, qwide a = some x ∧ floatBits .add .f64 (floatOfInt .f64 (z : Int)) 4562254508917369340 = some s ∧ (FloatKind.f64.format.order x s == some .gt) = false := by
  obtain ⟨h1, h2, h3⟩ := h
  obtain ⟨x, x1, x2, x3, x4⟩ := fwide h1
  obtain ⟨f1, f2, _⟩ := fint .f64 (z : Int) (by omega)
  obtain ⟨d1, d2, d3⟩ := c001
  have hz0 := cast_le (show (0 : Int) ≤ (z : Int) by omega)
  have hz1 := cast_le (show (z : Int) ≤ 100 by omega)
  have e0 : ((0 : Int) : Rat) = 0 := rfl
  have t1 : ((100 : Int) : Rat) + 1 ≤ top := by decide +kernel
  have t0 : (-top : Rat) ≤ 0 := by decide +kernel
  obtain ⟨s, s1, s2⟩ := fadd f1 d1 (by rw [f2]; grind) (by rw [f2]; grind)
  refine ⟨x, s, x1, s1, gt_false x2 s2.fin ?_⟩
  have := s2.ge_int (z : Int) (by omega) (by rw [f2]; grind)
  rw [x4]
  grind
theorem wide_facts {a : Nat} (h : Btw 8 a) : ∃ x, qwide a = some x ∧ (FloatKind.f64.format.order x 4620693217682128896 == some .gt) = false := by
  obtain ⟨x, x1, x2, x3, x4⟩ := fwide h.1
  exact ⟨x, x1, gt_false x2 c8.1 (by rw [x4, c8.2]; exact h.2.2)⟩
end Go.Proofs.Ytejmpijihmmajaa

/- Walks: what the law on slides calls, its memory; sheets put into variables. Conditions: a sheet that was drawn. -/
import Derived.Test.YtoibgpmpngccjaaSln
import Derived.Test.YtoibgpmpngccjaaHk
namespace Go.Proofs.Ytoibgpmpngccjaa
open Go.RowKit
open Num Quick

/-- A sheet that is put into a variable. -/
theorem Held.sheet {fs : List Fact} {w w' : World} {W H : Int} {A : Option Addr} {N c g : Nat} {xs : List Value} (h : Held fs w) (hR : Rd w w.heap.size 1 A N xs) (e : w' = w.alloc (.cells #[.int .i64 W, .int .i64 H, .slice A N c] 26)) (hg : w.heap.size = g) :
    Held (fs ++ [.rd g 1 A N xs] ++ [.blk g 26 #[.int .i64 W, .int .i64 H, .slice A N c]]) w' := by
  have V : Below w.heap.size w w' := by rw [e]; exact (Below.refl _ _).alloc (Nat.le_refl _) _
  have B : Blk w' g 26 #[.int .i64 W, .int .i64 H, .slice A N c] := by rw [e, ← hg]; exact Blk.new _ _ _
  have R : Rd w' g 1 A N xs := by rw [← hg]; exact hR.below V
  exact ((h.below V).add (f := .rd g 1 A N xs) ⟨by rw [← hg]; exact V.size, R⟩).add (f := .blk g _ _) B
theorem c3 : Gn 2 12 1077936128 := by
  refine ⟨?_, by decide, ?_⟩
  · show (1077936128 : Nat) % FloatKind.f32.format.signWeight < FloatKind.f32.format.infRung
    decide +kernel
  · unfold Num.fv val rv p2
    decide +kernel
theorem c18 : Gn 5 4 1040187392 := by
  refine ⟨?_, by decide, ?_⟩
  · show (1040187392 : Nat) % FloatKind.f32.format.signWeight < FloatKind.f32.format.infRung
    decide +kernel
  · unfold Num.fv val rv p2
    decide +kernel
theorem flat_drawn {W H N : Nat} (w1 : 1 ≤ W) (w6 : W ≤ 6) (h1 : 1 ≤ H) (h6 : H ≤ 6) (hn : W * H = N) : Drawn W H N (List.replicate N 1077936128) (fun _ => 12) :=
  ⟨w1, w6, h1, h6, hn, by simp, fun k hk => by rw [List.getD_eq_getElem?_getD, List.getElem?_replicate, if_pos hk]; exact c3, fun k hk => by omega⟩
theorem flat_law (W H N : Nat) (w : World) (w1 : 1 ≤ W) (w6 : W ≤ 6) (h1 : 1 ≤ H) (h6 : H ≤ 6) (hn : W * H = N) :
    Calls Try.prog 6 #[.int .i64 (W : Int), .int .i64 (H : Int), .float .f32 1077936128] w fun e w' => ∃ g c', e = .returned (.tuple #[.agg #[.int .i64 (W : Int), .int .i64 (H : Int), .slice (some ⟨g, 0, none⟩) N c'], .bool true]) ∧ Rd w' w'.heap.size 1 (some ⟨g, 0, none⟩) N ((List.replicate N 1077936128).map fv) ∧ Below w.heap.size w w' := by
  refine (FlatSheet_ok W H N 1077936128 w w1 (by omega) h1 (by omega) hn c3.fin).mono ?_
  rintro e w' ⟨g, c, rfl, ho, hb⟩
  rw [List.length_replicate] at ho
  refine ⟨g, c, ?_, Rd.own ho, hb⟩
  rw [List.length_replicate]
  rfl
theorem still_law (W H N c : Nat) (A : Option Addr) (w : World) (w1 : 1 ≤ W) (w6 : W ≤ 6) (h1 : 1 ≤ H) (h6 : H ≤ 6) (hn : W * H = N) (hA : Rd w w.heap.size 1 A N ((List.replicate N 1077936128).map fv)) :
    Calls Try.prog 7 #[.agg #[.int .i64 (W : Int), .int .i64 (H : Int), .slice A N c], .float .f32 0, .float .f32 1040187392] w fun e w' => ∃ g c', e = .returned (.tuple #[.agg #[.int .i64 (W : Int), .int .i64 (H : Int), .slice (some ⟨g, 0, none⟩) N c'], .float .f32 0, .bool true]) ∧ Rd w' w'.heap.size 1 (some ⟨g, 0, none⟩) N ((List.replicate N 1077936128).map fv) ∧ Below w.heap.size w w' := by
  have hd := flat_drawn w1 w6 h1 h6 hn
  refine (TalusStep_ok W H N 0 1040187392 c A _ _ 0 4 w w1 w6 h1 h6 hn hd.len hd.gn hd.ms (Gn.zero 2) (by omega) (by omega) c18 (by omega) (by omega) hA).mono ?_
  rintro e w' ⟨O, sm, g, c', rfl, hT, ho, hb⟩
  obtain ⟨e1, e2⟩ := hT.same (fun a b _ _ => by omega)
  subst e1 e2
  exact ⟨g, c', rfl, Rd.own ho, hb⟩
theorem slid_law (W H N st sh c s b : Nat) (A : Option Addr) (xs : List Nat) (ms : Nat → Int) (w : World) (h : Drawn W H N xs ms) (hst : Gn 2 (s : Int) st) (hs : s ≤ 4) (hsh : Gn 5 (b : Int) sh) (hb4 : b ≤ 4) (hA : Rd w w.heap.size 1 A N (xs.map fv)) :
    Calls Try.prog 7 #[.agg #[.int .i64 (W : Int), .int .i64 (H : Int), .slice A N c], .float .f32 st, .float .f32 sh] w fun e w' => ∃ (O : List Nat) (zs : Nat → Int) (sm g c' : Nat), e = .returned (.tuple #[.agg #[.int .i64 (W : Int), .int .i64 (H : Int), .slice (some ⟨g, 0, none⟩) N c'], .float .f32 sm, .bool true]) ∧
      O.length = N ∧ O.all finW = true ∧ msum O = msum xs ∧ (∀ k, k < N → Gn 7 (zs k) (O.getD k 0) ∧ (zs k).natAbs ≤ 20000) ∧ (FloatKind.f32.format.order sm 0 == some .lt) = false ∧ w'.ownsRow w.heap.size 30 1 (.slice (some ⟨g, 0, none⟩) N c') N (O.map fv) ∧ Below w.heap.size w w' := by
  refine (TalusStep_ok W H N st sh c A xs ms s b w h.w1 h.w6 h.h1 h.h6 h.n h.len h.gn h.ms hst (by omega) (by omega) hsh (by omega) (by omega) hA).mono ?_
  rintro e w' ⟨O, sm, g, c', rfl, hT, ho, hb⟩
  have h36 := h.n36
  obtain ⟨b1, b2, b3, zs, b4⟩ := hT.bound (by omega)
  exact ⟨O, zs, sm, g, c', rfl, hT.len, b1, hT.mass, fun k hk => ⟨(b4 k hk).1, by have := (b4 k hk).2; omega⟩, not_lt_cmp b2 c0.1 (by rw [c0.2]; exact b3), ho, hb⟩
theorem blk_three {w : World} {g : Nat} {t : TypeId} {a b c : Value} (h : Blk w g t #[a, b, c]) : w.cell? ⟨g, 0, none⟩ = some a ∧ w.frozen? ⟨g, 0, none⟩ = false ∧ w.cell? ⟨g, 1, none⟩ = some b ∧ w.frozen? ⟨g, 1, none⟩ = false ∧ w.cell? ⟨g, 2, none⟩ = some c ∧ w.frozen? ⟨g, 2, none⟩ = false :=
  ⟨h.cell 0, h.frozen 0, h.cell 1, h.frozen 1, h.cell 2, h.frozen 2⟩
/-- The variable is made behind the call. -/
theorem Held.late {fs : List Fact} {w w' : World} {W H : Int} {N c gO : Nat} {base : Nat} {xs : List Value} (h : Held fs w) (hb : Below w.heap.size w w') (ho : w'.ownsRow base 30 1 (.slice (some ⟨gO, 0, none⟩) N c) N xs) :
    ∃ B g, Held (fs ++ [.rd B 1 (some ⟨gO, 0, none⟩) N xs] ++ [.blk g 26 #[.int .i64 W, .int .i64 H, .slice (some ⟨gO, 0, none⟩) N c]]) (w'.alloc (.cells #[.int .i64 W, .int .i64 H, .slice (some ⟨gO, 0, none⟩) N c] 26)) ∧ g = w'.heap.size :=
  ⟨_, _, (h.below hb).sheet (Rd.own ho) rfl rfl, rfl⟩
/-- The variable was made ahead of the call. -/
theorem Held.early {fs : List Fact} {w w' : World} {W H : Int} {N c gO p : Nat} {base : Nat} {xs : List Value} {a b d : Value} (h : Held fs w) (hb : Below w.heap.size w w') (ho : w'.ownsRow base 30 1 (.slice (some ⟨gO, 0, none⟩) N c) N xs) (hp : w.heap.size ≤ p) (hk : Blk w' p 26 #[a, b, d]) (hpb : p < base) :
    ∃ B g, Held (fs ++ [.rd B 1 (some ⟨gO, 0, none⟩) N xs] ++ [.blk g 26 #[.int .i64 W, .int .i64 H, .slice (some ⟨gO, 0, none⟩) N c]]) (((w'.setCell ⟨p, 0, none⟩ (.int .i64 W)).setCell ⟨p, 1, none⟩ (.int .i64 H)).setCell ⟨p, 2, none⟩ (.slice (some ⟨gO, 0, none⟩) N c)) ∧ g = p := by
  obtain ⟨k, g⟩ := blk_set3 hk (.int .i64 W) (.int .i64 H) (.slice (some ⟨gO, 0, none⟩) N c)
  have hB := hb.grown g hb.size (fun j e => by injection e with e; omega)
  have hO := own_grown' ho g (fun e => by
    have e' : some p = some gO := e
    injection e' with e'
    have := (ho.lt gO rfl).1
    omega)
  exact ⟨_, p, ((h.below hB).add (f := .rd _ 1 (some ⟨gO, 0, none⟩) N xs) ⟨Nat.le_refl _, Rd.own hO⟩).add (f := .blk p _ _) k, rfl⟩
end Go.Proofs.Ytoibgpmpngccjaa

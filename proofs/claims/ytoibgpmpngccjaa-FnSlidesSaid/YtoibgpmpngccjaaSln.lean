/- Walks: what the law on slides calls, in the words of the law. Conditions: a sheet that was drawn. -/
import Derived.Test.YtoibgpmpngccjaaSlm
import Derived.Test.YtoibgpmpngccjaaSlh
import Derived.Test.YtoibgpmpngccjaaSlk
import Derived.Test.YtoibgpmpngccjaaSld
import Derived.Test.YtoibgpmpngccjaaHu
import Derived.Test.YtoibgpmpngccjaaHq
namespace Go.Proofs.Ytoibgpmpngccjaa
open Go.RowKit
open Num Quick

/-- A sheet as the law reads it. -/
structure Drawn (W H N : Nat) (xs : List Nat) (ms : Nat → Int) : Prop where
  w1 : 1 ≤ W
  w6 : W ≤ 6
  h1 : 1 ≤ H
  h6 : H ≤ 6
  n : W * H = N
  len : xs.length = N
  gn : ∀ k, k < N → Gn 2 (ms k) (xs.getD k 0)
  ms : ∀ k, k < N → (ms k).natAbs ≤ 16
theorem drawn_of {W H N : Nat} {xs : List Nat} (w1 : 1 ≤ W) (w6 : W ≤ 6) (h1 : 1 ≤ H) (h6 : H ≤ 6) (hn : W * H = N) (hl : xs.length = N) (h : ∀ x ∈ xs, Qtr x) : ∃ ms, Drawn W H N xs ms := by
  have : ∀ k, ∃ m : Int, k < N → Gn 2 m (xs.getD k 0) ∧ m.natAbs ≤ 16 := fun k => by
    by_cases hk : k < N
    · have hk' : k < xs.length := by omega
      obtain ⟨m, h1, h2⟩ := h xs[k] (List.getElem_mem hk')
      refine ⟨m, fun _ => ?_⟩
      rw [List.getD_eq_getElem?_getD, List.getElem?_eq_getElem hk']
      exact ⟨h2, h1⟩
    · exact ⟨0, fun h => absurd h hk⟩
  exact ⟨fun k => Classical.choose (this k), w1, w6, h1, h6, hn, hl, fun k hk => (Classical.choose_spec (this k) hk).1, fun k hk => (Classical.choose_spec (this k) hk).2⟩
theorem Drawn.n36 {W H N : Nat} {xs : List Nat} {ms : Nat → Int} (h : Drawn W H N xs ms) : N ≤ 36 := by rw [← h.n]; exact Nat.mul_le_mul h.w6 h.h6
theorem Drawn.n1 {W H N : Nat} {xs : List Nat} {ms : Nat → Int} (h : Drawn W H N xs ms) : 1 ≤ N := by rw [← h.n]; exact Nat.le_trans h.w1 (Nat.le_mul_of_pos_right W h.h1)
theorem Drawn.hs {W H N : Nat} {xs : List Nat} {ms : Nat → Int} (h : Drawn W H N xs ms) : HsOk 4 xs := fun k hk => by
  rw [h.len] at hk
  have h1 := h.gn k hk
  have h2 := h.ms k hk
  refine ⟨h1.fin, ?_⟩
  have p4 : ((2 ^ 2 : Nat) : Rat) = 4 := rfl
  have := h1.val
  rw [p4] at this
  have a1 : ((ms k : Int) : Rat) ≤ 16 := cast_le' (b := 16) (by omega)
  have a2 : (-16 : Rat) ≤ ((ms k : Int) : Rat) := cast_le' (a := -16) (by omega)
  rw [this]
  unfold InR
  constructor <;> grind
theorem Drawn.fin {W H N : Nat} {xs : List Nat} {ms : Nat → Int} (h : Drawn W H N xs ms) : xs.all finW = true := h.hs.all
theorem take_full {xs : List Nat} {N : Nat} (h : xs.length = N) : xs.take N = xs := List.take_of_length_le (by omega)
theorem mass_grid (W H N : Nat) (A : Option Addr) (c : Nat) (xs : List Nat) (zs : Nat → Int) (w : World) (w1 : 1 ≤ W) (w6 : W ≤ 6) (h1 : 1 ≤ H) (h6 : H ≤ 6) (hn : W * H = N) (hl : xs.length = N) (hf : xs.all finW = true) (hz : ∀ k, k < N → Gn 7 (zs k) (xs.getD k 0) ∧ (zs k).natAbs ≤ 20000) (hA : Rd w w.heap.size 1 A N (xs.map fv)) :
    Calls Try.prog 13 #[.agg #[.int .i64 (W : Int), .int .i64 (H : Int), .slice A N c]] w fun e w' => e = .returned (.tuple #[.float .f32 (smF xs N), .bool true]) ∧ Below w.heap.size w w' := by
  have hN : N ≤ 36 := by rw [← hn]; exact Nat.mul_le_mul w6 h6
  obtain ⟨⟨S, s1, _⟩, _⟩ := sm_exact hl hN hz N (Nat.le_refl _)
  exact MassOf_calls W H N A c xs (smF xs) w w1 (by omega) h1 (by omega) hn hl hf hA rfl (fun k hk => sm_exact_step hl hN hz k hk) s1.fin
theorem mass_near (W H N : Nat) (A : Option Addr) (c : Nat) (xs : List Nat) (w : World) (w1 : 1 ≤ W) (w6 : W ≤ 6) (h1 : 1 ≤ H) (h6 : H ≤ 6) (hn : W * H = N) (hl : xs.length = N) (h : HsOk 6 xs) (hA : Rd w w.heap.size 1 A N (xs.map fv)) :
    Calls Try.prog 13 #[.agg #[.int .i64 (W : Int), .int .i64 (H : Int), .slice A N c]] w fun e w' => e = .returned (.tuple #[.float .f32 (smF xs N), .bool true]) ∧ Below w.heap.size w w' := by
  have hN : N ≤ 36 := by rw [← hn]; exact Nat.mul_le_mul w6 h6
  obtain ⟨s1, s2, s3, s4⟩ := sm_near hl hN h N (Nat.le_refl _)
  exact MassOf_calls W H N A c xs (smF xs) w w1 (by omega) h1 (by omega) hn hl h.all hA rfl s4 s1
/-- How near the sum of heights comes. -/
theorem mass_val {N : Nat} {xs : List Nat} (hN : N ≤ 36) (hl : xs.length = N) (h : HsOk 6 xs) : Fl .f32 (smF xs N) ∧ InR (Num.fv .f32 (smF xs N) - msum xs) (1 / 1000) := by
  obtain ⟨s1, s2, s3, s4⟩ := sm_near hl hN h N (Nat.le_refl _)
  rw [take_full hl] at s3
  refine ⟨s1, ?_⟩
  have : (N : Rat) ≤ 36 := by
    have : ((N : Nat) : Rat) ≤ ((36 : Nat) : Rat) := Rat.natCast_le_natCast.2 hN
    exact this
  unfold InR at *
  constructor <;> grind
theorem eighths {b : Nat} {w : Nat} (h : Gn 3 (b : Int) w) {B : Nat} (hb : b ≤ B) : 0 ≤ Num.fv .f32 w ∧ Num.fv .f32 w ≤ (B : Rat) / 8 := by
  have p8 : ((2 ^ 3 : Nat) : Rat) = 8 := rfl
  have := h.val
  rw [p8] at this
  have a1 : (0 : Rat) ≤ ((b : Int) : Rat) := cast_le' (a := 0) (by omega)
  have a2 : ((b : Int) : Rat) ≤ (((B : Nat) : Int) : Rat) := cast_le' (by omega)
  rw [Rat.intCast_natCast (n := B)] at a2
  rw [this]
  constructor <;> grind
theorem okTake_of {x : Nat} (h : Fl .f32 x) (h0 : 0 ≤ Num.fv .f32 x) (h1 : Num.fv .f32 x ≤ 1 / 2) : okTake x = true := by
  have ch : Fl .f32 1056964608 ∧ Num.fv .f32 1056964608 = 1 / 2 := by
    refine ⟨?_, ?_⟩
    · show (1056964608 : Nat) % FloatKind.f32.format.signWeight < FloatKind.f32.format.infRung
      decide +kernel
    · unfold Num.fv val rv p2
      decide +kernel
  unfold okTake geF leF
  rw [(le_cmp h ch.1 (by rw [ch.2]; exact h1)).1, Bool.and_true]
  by_cases e : Num.fv .f32 0 = Num.fv .f32 x
  · rw [cmp_eq' h c0.1 e.symm]; decide
  · rw [cmp_gt' h c0.1 (by rw [c0.2] at e ⊢; grind)]; decide
theorem okShare_of {x : Nat} (h : Fl .f32 x) (h0 : 0 ≤ Num.fv .f32 x) (h1 : Num.fv .f32 x ≤ 1) : okShare x = true := by
  unfold okShare geF leF
  rw [(le_cmp h c1.1 (by rw [c1.2]; exact h1)).1, Bool.and_true]
  by_cases e : Num.fv .f32 0 = Num.fv .f32 x
  · rw [cmp_eq' h c0.1 e.symm]; decide
  · rw [cmp_gt' h c0.1 (by rw [c0.2] at e ⊢; grind)]; decide
theorem own_some {w : World} {base N : Nat} {A : Option Addr} {c : Nat} {xs : List Value} (h : w.ownsRow base 30 1 (.slice A N c) N xs) (hN : 1 ≤ N) : ∃ g, A = some ⟨g, 0, none⟩ := by
  obtain ⟨g, cap, hv, _, _⟩ := h.form (by omega)
  injection hv with q1 _ q3
  exact ⟨g, q1⟩
theorem drop_law (W H N x y b t c tk lv : Nat) (A : Option Addr) (xs : List Nat) (ms : Nat → Int) (w : World) (h : Drawn W H N xs ms) (hx : x < W) (hy : y < H) (ht : Gn 3 (t : Int) tk) (ht4 : t ≤ 4) (hv : Gn 3 (b : Int) lv) (hb8 : b ≤ 8) (hA : Rd w w.heap.size 1 A N (xs.map fv)) :
    Calls Try.prog 9 #[.agg #[.int .i64 (W : Int), .int .i64 (H : Int), .slice A N c], .int .i64 (x : Int), .int .i64 (y : Int), .int .i64 20, .float .f32 tk, .float .f32 lv] w fun e w' => ∃ (C : List Nat) (n g c' : Nat), e = .returned (.tuple #[.agg #[.int .i64 (W : Int), .int .i64 (H : Int), .slice (some ⟨g, 0, none⟩) N c'], .int .i64 (n : Int), .bool true]) ∧
      n ≤ 20 ∧ C.length = N ∧ HsOk 6 C ∧ InR (msum C - msum xs) (1 / 1000) ∧ w'.ownsRow w.heap.size 30 1 (.slice (some ⟨g, 0, none⟩) N c') N (C.map fv) ∧ Below w.heap.size w w' := by
  have t1 := eighths ht (B := 4) ht4
  have v1 := eighths hv (B := 8) hb8
  have e1 : ((4 : Nat) : Rat) / 8 = 1 / 2 := by decide +kernel
  have e2 : ((8 : Nat) : Rat) / 8 = 1 := by decide +kernel
  rw [e1] at t1
  rw [e2] at v1
  refine (implDropOn_ok W H N x y 20 tk lv A c xs w h.w1 (by have := h.w6; omega) h.h1 (by have := h.h6; omega) h.n h.len hx hy (by omega) (by rw [okTake_of ht.fin t1.1 t1.2, okShare_of hv.fin v1.1 v1.2]; rfl) h.fin hA).mono ?_
  rintro e w' ⟨Hf, m, hrun, hres⟩
  have hl : xs.length = W * H := by rw [h.len, h.n]
  obtain ⟨q1, q2, q3⟩ := drop_near ht.fin t1.1 t1.2 hv.fin v1.1 v1.2 (B := 4) (by decide +kernel) (Nat.le_refl 20) hl (place_lt hx hy) h.hs hrun
  have hlf : Hf.length = N := by rw [run_len hrun, h.len]
  rcases hres with ⟨_, A2, c2, rfl, ho, hb⟩ | ⟨hf, _⟩
  · rw [hlf] at ho
    obtain ⟨g, rfl⟩ := own_some ho h.n1
    refine ⟨Hf, m, g, c2, ?_, q3, hlf, q1.mono (by decide +kernel), ?_, ho, hb⟩
    · rw [hlf]; rfl
    · have : (121 : Rat) * dl ≤ 1 / 1000 := by decide +kernel
      generalize 121 * dl = D at *
      unfold InR at *
      constructor <;> grind
  · rw [q1.all] at hf
    cases hf
theorem drops_facts : Fl .f32 1048576000 ∧ 0 ≤ Num.fv .f32 1048576000 ∧ Num.fv .f32 1048576000 ≤ 1 / 2 ∧ Fl .f32 1056964608 ∧ 0 ≤ Num.fv .f32 1056964608 ∧ Num.fv .f32 1056964608 ≤ 1 := by
  have e1 : Num.fv .f32 1048576000 = 1 / 4 := by unfold Num.fv val rv p2; decide +kernel
  have e2 : Num.fv .f32 1056964608 = 1 / 2 := by unfold Num.fv val rv p2; decide +kernel
  rw [e1, e2]
  refine ⟨?_, by decide +kernel, by decide +kernel, ?_, by decide +kernel, by decide +kernel⟩
  · show (1048576000 : Nat) % FloatKind.f32.format.signWeight < FloatKind.f32.format.infRung
    decide +kernel
  · show (1056964608 : Nat) % FloatKind.f32.format.signWeight < FloatKind.f32.format.infRung
    decide +kernel
theorem drops_law (W H N s c : Nat) (A : Option Addr) (xs : List Nat) (ms : Nat → Int) (w : World) (h : Drawn W H N xs ms) (hs : s ≤ 2147483647) (hA : Rd w w.heap.size 1 A N (xs.map fv)) :
    Calls Try.prog 11 #[.agg #[.int .i64 (W : Int), .int .i64 (H : Int), .slice A N c], .int .i64 5, .int .i64 10, .float .f32 1048576000, .float .f32 1056964608, .int .i64 (s : Int)] w fun e w' => ∃ (C : List Nat) (s' g c' : Nat), e = .returned (.tuple #[.agg #[.int .i64 (W : Int), .int .i64 (H : Int), .slice (some ⟨g, 0, none⟩) N c'], .int .i64 (s' : Int), .bool true]) ∧
      Many (nxI W H) W H 1048576000 1056964608 10 5 xs s (some (C, s')) ∧ C.length = N ∧ HsOk 6 C ∧ InR (msum C - msum xs) (1 / 1000) ∧ Rd w' w'.heap.size 1 (some ⟨g, 0, none⟩) N (C.map fv) ∧ Below w.heap.size w w' := by
  obtain ⟨f1, f2, f3, f4, f5, f6⟩ := drops_facts
  refine (implDropsOn_ok W H N 5 s 10 1048576000 1056964608 A c xs w h.w1 (by have := h.w6; omega) h.h1 (by have := h.h6; omega) h.n h.len (by omega) (by omega) hs (by rw [okTake_of f1 f2 f3, okShare_of f4 f5 f6]; rfl) h.fin hA).mono ?_
  intro e w' hres
  have hl : xs.length = W * H := by rw [h.len, h.n]
  have hM : ∀ r, Many (nxI W H) W H 1048576000 1056964608 10 5 xs s r → ∃ Hf s', r = some (Hf, s') ∧ Hf.length = W * H ∧ HsOk (4 + 161 * (((5 : Nat) : Rat) * dl)) Hf ∧ InR (msum Hf - msum xs) (121 * (((5 : Nat) : Rat) * dl)) := fun r hm =>
    many_near h.w1 h.h1 f1 f2 f3 f4 f5 f6 (by omega) hm 4 hl h.hs (by decide +kernel)
  rcases hres with ⟨C, s', hm, A2, c2, rfl, ho, hb⟩ | ⟨hm, _⟩
  · obtain ⟨C', s2, e, hlf, q1, q2⟩ := hM _ hm
    injection e with e
    injection e with e1 e2
    subst e1 e2
    rw [h.n] at hlf
    rw [hlf] at ho
    obtain ⟨g, rfl⟩ := own_some ho h.n1
    refine ⟨C, s', g, c2, ?_, hm, hlf, q1.mono (by decide +kernel), ?_, Rd.own ho, hb⟩
    · rw [hlf]; rfl
    · have : (121 : Rat) * (((5 : Nat) : Rat) * dl) ≤ 1 / 1000 := by decide +kernel
      generalize 121 * (((5 : Nat) : Rat) * dl) = D at *
      unfold InR at *
      constructor <;> grind
  · obtain ⟨C', s2, e, _⟩ := hM _ hm
    cases e
theorem wants_law (W H N s s' c : Nat) (A : Option Addr) (xs C : List Nat) (ms : Nat → Int) (w : World) (h : Drawn W H N xs ms) (hs : s ≤ 2147483647) (hm : Many (nxI W H) W H 1048576000 1056964608 10 5 xs s (some (C, s'))) (hlC : C.length = N) (hA : Rd w w.heap.size 1 A N (xs.map fv)) :
    Calls Try.prog 12 #[.agg #[.int .i64 (W : Int), .int .i64 (H : Int), .slice A N c], .int .i64 5, .int .i64 10, .float .f32 1048576000, .float .f32 1056964608, .int .i64 (s : Int)] w fun e w' => ∃ (g c' : Nat), e = .returned (.tuple #[.agg #[.int .i64 (W : Int), .int .i64 (H : Int), .slice (some ⟨g, 0, none⟩) N c'], .int .i64 (s' : Int), .bool true]) ∧
      Rd w' w'.heap.size 1 (some ⟨g, 0, none⟩) N (C.map fv) ∧ Below w.heap.size w w' := by
  obtain ⟨f1, f2, f3, f4, f5, f6⟩ := drops_facts
  refine (specDropsOn_ok W H N 5 s 10 1048576000 1056964608 A c xs w h.w1 (by have := h.w6; omega) h.h1 (by have := h.h6; omega) h.n h.len (by omega) (by omega) hs (by rw [okTake_of f1 f2 f3, okShare_of f4 f5 f6]; rfl) h.fin hA).mono ?_
  intro e w' hres
  have hl : xs.length = W * H := by rw [h.len, h.n]
  rcases hres with ⟨C', s2, hm', A2, c2, rfl, ho, hb⟩ | ⟨hm', _⟩
  · have e := many_det h.w1 h.h1 (nxOk_I W H) (nxOk_S W H) hm hl h.fin hm'
    injection e with e
    injection e with e1 e2
    subst e1 e2
    rw [hlC] at ho
    obtain ⟨g, rfl⟩ := own_some ho h.n1
    refine ⟨g, c2, ?_, Rd.own ho, hb⟩
    rw [hlC]; rfl
  · have e := many_det h.w1 h.h1 (nxOk_I W H) (nxOk_S W H) hm hl h.fin hm'
    cases e
end Go.Proofs.Ytoibgpmpngccjaa

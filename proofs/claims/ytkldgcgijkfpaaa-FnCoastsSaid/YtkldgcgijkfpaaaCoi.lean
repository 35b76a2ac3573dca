/- Walk: slices.Grow of nothing, slices.Concat of three lists. Conditions: at most a thousand numbers. -/
import Derived.Test.YtkldgcgijkfpaaaCoh
import Derived.Laws.AppendOwn
import Derived.Lib.AppendZeros
namespace Go.Proofs.Ytkldgcgijkfpaaa
open Go.RowKit
open Num Quick
attribute [local go_sem] run_store_fl run_store_cx

theorem own_cut {w : World} {base g n m c : Nat} {e : TypeId} {xs : List Value} (h : w.ownsRow base e 1 (.slice (some ⟨g, 0, none⟩) n c) n xs) (hm : m ≤ n) : w.ownsRow base e 1 (.slice (some ⟨g, 0, none⟩) m c) m (xs.take m) := by
  have h1 := h.1
  rcases h.2 with ⟨h', _⟩ | ⟨g', cap, cur, hv, hb, hh, hn, hx, hs, ht⟩
  · simp at h'
  · refine ⟨by rw [List.length_take]; omega, .inr ⟨g', cap, cur, ?_, hb, hh, by omega, hx, hs, ?_⟩⟩
    · simp only [Value.slice.injEq, Option.some.injEq, Addr.mk.injEq, and_true, true_and] at hv ⊢
      exact ⟨hv.1, hv.2⟩
    · rw [← ht, List.take_take]
      congr 1
      omega
/-- Zeros in a new row: nothing of it is used yet. -/
theorem zeros_own (w : World) (n gc : Nat) (h : n ≤ gc) (hg : gc ≤ maxLen) : (w.drew.alloc (.cells (Builtin.zeroCells #[.complex .f32 0 0] n ++ Builtin.zeroCells #[.complex .f32 0 0] (gc - n)) 37)).ownsRow w.heap.size 37 1 (.slice (some ⟨w.heap.size, 0, none⟩) 0 gc) 0 [] := by
  have hs : (Builtin.zeroCells #[.complex .f32 0 0] n ++ Builtin.zeroCells #[.complex .f32 0 0] (gc - n)).size = gc := by
    simp [Builtin.zeroCells]
    omega
  have h0 := (Blk.new w.drew 37 (Builtin.zeroCells #[.complex .f32 0 0] n ++ Builtin.zeroCells #[.complex .f32 0 0] (gc - n))).own (n := gc) (size := 1) (base := w.heap.size) (Nat.le_refl _) (by omega) hg
  have := own_cut h0 (Nat.zero_le _)
  simpa using this
theorem grow_run (n : Nat) (ty : TypeId) (w : World) (h1 : 1 ≤ n) (hn : n ≤ 1000) : (Builtin.append_ #[27, 3] ty #[.slice none 0 0, .int .i64 (n : Int)]).run Try.prog w = .ok (.slice (some ⟨w.heap.size, 0, none⟩) n (grownCap w n 0 37)) (w.drew.alloc (.cells (Builtin.zeroCells #[.complex .f32 0 0] n ++ Builtin.zeroCells #[.complex .f32 0 0] (grownCap w n 0 37 - n)) 37)) := by
  obtain ⟨i, hi, hz, hs, hb⟩ : ∃ i, Try.prog.info? 37 = some i ∧ i.zero = some (.complex .f32 0 0) ∧ i.size = 1 ∧ i.bytes = 8 := by
    have h := cxInfo
    cases e : Try.prog.info? 37 with
    | none => rw [e] at h; cases h
    | some i =>
      rw [e] at h
      simp only [Option.map_some, Option.some.injEq, Prod.mk.injEq] at h
      exact ⟨i, rfl, h.1, h.2.1, h.2.2⟩
  exact Lib.run_append_nil_zeros (P := Try.prog) w 27 3 ty 37 i (.complex .f32 0 0) .i64 .i64 Try.underlying27 Try.underlying3 hi hz n (by omega) (by omega) (by omega) (by rw [hb]; omega)
theorem Grow_ok (n : Nat) (w : World) (h1 : 1 ≤ n) (hn : n ≤ 1000) : Calls Try.prog 75 #[.slice none 0 0, .int .i64 (n : Int)] w fun e w' => ∃ g c, e = .returned (.slice (some ⟨g, 0, none⟩) 0 c) ∧ w'.ownsRow w.heap.size 37 1 (.slice (some ⟨g, 0, none⟩) 0 c) 0 [] ∧ Below w.heap.size w w' := by
  have hn0 : (0 : Int) < (n : Int) := by omega
  have RG := Lib.hid (fun ty => grow_run n ty w h1 hn)
  have gc1 := grownCap_ge w n 0 37
  have gc2 := grownCap_le_maxLen w n 0 37 (by unfold maxLen; omega)
  have ZO := Lib.hid (zeros_own w n _ gc1 gc2)
  have ZB : Hid (Below w.heap.size w (w.drew.alloc (.cells (Builtin.zeroCells #[.complex .f32 0 0] n ++ Builtin.zeroCells #[.complex .f32 0 0] (grownCap w n 0 37 - n)) 37))) := Lib.hid ((Below.refl _ _).drew.alloc (Nat.le_refl _) _)
  obtain ⟨gc, egc⟩ : ∃ g, grownCap w n 0 37 = g := ⟨_, rfl⟩
  rw [egc] at RG ZO ZB gc1 gc2
  obtain ⟨v, ev⟩ : ∃ v, v = w.drew.alloc (.cells (Builtin.zeroCells #[.complex .f32 0 0] n ++ Builtin.zeroCells #[.complex .f32 0 0] (gc - n)) 37) := ⟨_, rfl⟩
  rw [← ev] at RG ZO ZB
  have hgc : (gc : Int) ≤ 9223372036854775807 := by unfold maxLen at gc2; omega
  clear ev egc
  go_enter Try.func75, Try.ntmps75
  go_wp2_with (at_builtin; refine Lib.wpList_append_run (P := Try.prog) w rfl _ _ _ _ rfl _ _ rfl rfl _ _ (RG.out _) ?_)
  go_ret
  exact ⟨w.heap.size, gc, rfl, ZO.out, ZB.out⟩
set_option maxRecDepth 100000 in
/-- A list appended, none or some. -/
theorem app_run (ty : TypeId) (w : World) (base g n c m cA : Nat) (A : Option Addr) (xs ys : List Value) (hO : w.ownsRow base 37 1 (.slice (some ⟨g, 0, none⟩) n c) n xs) (hR : Rd w w.heap.size 1 A m ys) (h1 : ∀ u ∈ ys, u.oneCell' = true) (hn : n + m ≤ 1000) (hb : base ≤ w.heap.size) :
    ∃ g' c' w', (Builtin.append_ #[27, 27] ty #[.slice (some ⟨g, 0, none⟩) n c, .slice A m cA]).run Try.prog w = .ok (.slice (some ⟨g', 0, none⟩) (n + m) c') w' ∧ w'.ownsRow base 37 1 (.slice (some ⟨g', 0, none⟩) (n + m) c') (n + m) (xs ++ ys) ∧ Below base w w' := by
  obtain ⟨i, hi, hz, hs, hbb⟩ : ∃ i, Try.prog.info? 37 = some i ∧ i.zero = some (.complex .f32 0 0) ∧ i.size = 1 ∧ i.bytes = 8 := by
    have h := cxInfo
    cases e : Try.prog.info? 37 with
    | none => rw [e] at h; cases h
    | some i =>
      rw [e] at h
      simp only [Option.map_some, Option.some.injEq, Prod.mk.injEq] at h
      exact ⟨i, rfl, h.1, h.2.1, h.2.2⟩
  have hlo : ∀ k, (Value.slice (some ⟨g, 0, none⟩) n c).ownBlock = some k → base ≤ k := fun k e => (hO.lt k e).1
  cases A with
  | some ad =>
    have hn2 : ∀ j u, ys[j]? = some u → w.cell? (ad.add j) = some u := fun j u hj => by
      by_cases hm : 0 < m
      · obtain ⟨b, off, e, _, hc⟩ := hR.2 hm
        injection e with e
        rw [e]
        have hcj := hc j u hj
        by_cases hj0 : j = 0
        · subst hj0; simpa [Addr.add] using hcj
        · simpa [Addr.add, hj0] using hcj
      · have : ys = [] := List.eq_nil_of_length_eq_zero (by have := hR.1; omega)
        rw [this] at hj
        simp at hj
    obtain ⟨v', w', r1, r2, r3, r4⟩ := run_append_own (P := Try.prog) w base 27 ty 37 i (.complex .f32 0 0) 1 8 Try.underlying27 hi hz hs hbb rfl (by omega) (.slice (some ⟨g, 0, none⟩) n c) n xs hO ad m cA ys hR.1 hn2 h1 (by unfold maxLen; omega) (by omega) hb
    have hne : v' ≠ .slice none 0 0 := fun e => by
      have := (r4.1 e).1
      cases this
    rcases r2.2 with ⟨h', _⟩ | ⟨g', cap, cur, hv, _⟩
    · exact absurd h' hne
    · subst hv
      exact ⟨g', cap, w', r1, r2, (Below.refl base w).grown r3 hb hlo⟩
  | none =>
    have hm : m = 0 := by
      by_cases hm : 0 < m
      · obtain ⟨b, off, e, _⟩ := hR.2 hm
        cases e
      · omega
    subst hm
    have hy : ys = [] := List.eq_nil_of_length_eq_zero (by have := hR.1; omega)
    subst hy
    have hc : n ≤ c := by
      rcases hO.2 with ⟨h', _⟩ | ⟨g', cap, cur, hv, _, _, hnc, _⟩
      · simp at h'
      · injection hv with _ _ h3
        omega
    refine ⟨g, c, w, ?_, by simpa using hO, Below.refl _ _⟩
    have hl : (Builtin.lenOf (.slice none 0 cA)).run Try.prog w = .ok 0 w := rfl
    have hf : (Builtin.firstCells 1 0 (.slice none 0 cA)).run Try.prog w = .ok #[] w := rfl
    simp [Builtin.append_, run_underlying Try.underlying27, sizeOf, typeInfo, hi, hs, hc, hl, hf]
    rfl
/-- Sums of sizes, lists one behind the other. -/
def msum (m : Nat → Nat) : Nat → Nat
  | 0 => 0
  | k + 1 => msum m k + m k
def ycat (ys : Nat → List Value) : Nat → List Value
  | 0 => []
  | k + 1 => ycat ys k ++ ys k
theorem msum_le {m : Nat → Nat} {k j : Nat} (h : k ≤ j) : msum m k ≤ msum m j := by
  induction j with
  | zero => rw [show k = 0 by omega]; exact Nat.le_refl _
  | succ j ih =>
    rcases Nat.eq_or_lt_of_le h with rfl | h
    · exact Nat.le_refl _
    · exact Nat.le_trans (ih (by omega)) (by show msum m j ≤ msum m j + m j; omega)
set_option maxRecDepth 100000 in
set_option maxHeartbeats 4000000 in
theorem Concat_ok (A : Nat → Option Addr) (m cc : Nat → Nat) (ys : Nat → List Value) (gs : Nat) (w : World) (h1 : 1 ≤ msum m 3) (hm : msum m 3 ≤ 1000) (hc : ∀ k, k < 3 → w.cell? ⟨gs, k, none⟩ = some (.slice (A k) (m k) (cc k))) (hg : gs < w.heap.size) (hR : ∀ k, k < 3 → Rd w w.heap.size 1 (A k) (m k) (ys k)) (hu : ∀ k, k < 3 → ∀ u ∈ ys k, u.oneCell' = true) :
    Calls Try.prog 57 #[.slice (some ⟨gs, 0, none⟩) 3 3] w fun e w' => ∃ g c, e = .returned (.slice (some ⟨g, 0, none⟩) (msum m 3) c) ∧ w'.ownsRow w.heap.size 37 1 (.slice (some ⟨g, 0, none⟩) (msum m 3) c) (msum m 3) (ycat ys 3) ∧ Below w.heap.size w w' := by
  have HC : Hid (∀ w' : World, Below w.heap.size w w' → ∀ k, k < 3 → w'.cell? ⟨gs, k, none⟩ = some (.slice (A k) (m k) (cc k))) := Lib.hid fun w' hb k hk => (hb.cell (p := ⟨gs, k, none⟩) hg).trans (hc k hk)
  have HR : Hid (∀ w' : World, Below w.heap.size w w' → ∀ k, k < 3 → Rd w' w'.heap.size 1 (A k) (m k) (ys k)) := Lib.hid fun w' hb k hk => ((hR k hk).below hb).more hb.size
  have HU := Lib.hid hu
  have ML := Lib.hid (fun k (hk : k ≤ 3) => (show msum m k ≤ 1000 from Nat.le_trans (msum_le hk) hm))
  have GO := Lib.hid (fun w => Grow_ok (msum m 3) w h1 hm)
  clear hc hg hR hu
  go_enter Try.func57, Try.ntmps57
  go_wp2
  go_loop [3, 11] (fun ss si => ∃ k x : Nat, k ≤ 3 ∧ si = .int .i64 (k : Int) ∧ ss = .int .i64 (x : Int) ∧ Hid (x = msum m k)) (fun _ si => 3 - (intOf si).toNat)
  case atStart => exact ⟨0, 0, by omega, rfl, rfl, Lib.hid rfl⟩
  case round =>
    obtain ⟨k, x, hk, rfl, rfl, HX⟩ := hrel
    have hx := ML.out k hk
    rw [← HX.out] at hx
    by_cases hlt : k < 3
    · have hki : (k : Int) < 3 := by omega
      have cK := HC.out w (Below.refl _ _) k hlt
      have hx2 := ML.out (k + 1) (by omega)
      have e2 : msum m (k + 1) = msum m k + m k := rfl
      rw [e2, ← HX.out] at hx2
      obtain ⟨mk, emk⟩ : ∃ y, m k = y := ⟨_, rfl⟩
      rw [emk] at cK hx2
      obtain ⟨y, ey⟩ : ∃ y, x + mk = y := ⟨_, rfl⟩
      have hy : (x : Int) + (mk : Int) = (y : Int) := by omega
      have HY : Hid (y = msum m (k + 1)) := Lib.hid (by rw [e2, ← HX.out, emk, ey])
      have hy0 : ¬ (y : Int) < 0 := by omega
      clear e2 emk ey
      go_wp2
      go_round
      case rel => exact ⟨k + 1, y, by omega, by go_num, rfl, HY⟩
      case measure => simp [intOf]; omega
    · obtain rfl : k = 3 := by omega
      have hki : ¬ ((3 : Nat) : Int) < 3 := by omega
      have hx3 := HX.out
      subst hx3
      clear HX
      go_wp2_with fail
      refine (GO.out _).mono ?_
      rintro e w2 ⟨g, c, rfl, ho, hb⟩
      have O2 := Lib.hid ho
      have V2 := Lib.hid hb
      clear ho hb GO
      go_wp2
      go_loopw [6, 27] (fun so si wr => ∃ (k x g c : Nat), si = .int .i64 (k : Int) ∧ k ≤ 3 ∧ so = .slice (some ⟨g, 0, none⟩) x c ∧ Hid (x = msum m k) ∧ Hid (wr.ownsRow w.heap.size 37 1 (.slice (some ⟨g, 0, none⟩) x c) x (ycat ys k)) ∧ Hid (Below w.heap.size w wr)) (fun _ si _ => 3 - (intOf si).toNat)
      case atStart => exact ⟨0, 0, g, c, rfl, by omega, rfl, Lib.hid rfl, O2, V2⟩
      case round =>
        clear O2 V2
        obtain ⟨k, x, g, c, rfl, hk, rfl, HX, O, V⟩ := hrel
        by_cases hlt : k < 3
        · have hki : (k : Int) < 3 := by omega
          have cK := HC.out wr V.out k hlt
          have hx2 := ML.out (k + 1) (by omega)
          have e2 : msum m (k + 1) = msum m k + m k := rfl
          rw [e2, ← HX.out] at hx2
          obtain ⟨g2, c2, w2', r2, o2, b2⟩ := app_run 27 wr w.heap.size g x c (m k) (cc k) (A k) (ycat ys k) (ys k) O.out (HR.out wr V.out k hlt) (HU.out k hlt) hx2 V.out.size
          have R2 := Lib.hid r2
          have V3 := Lib.hid (V.out.trans b2)
          have EX : Hid (x + m k = msum m (k + 1)) := Lib.hid (by rw [e2, HX.out])
          obtain ⟨y, ey⟩ : ∃ y, x + m k = y := ⟨_, rfl⟩
          rw [ey] at o2 R2 EX
          have O3 : Hid (w2'.ownsRow w.heap.size 37 1 (.slice (some ⟨g2, 0, none⟩) y c2) y (ycat ys (k + 1))) := Lib.hid o2
          clear r2 o2 b2 e2 ey O V HX
          go_wp2_with (at_builtin; refine Lib.wpList_append_run (P := Try.prog) wr rfl _ _ _ _ rfl _ _ rfl rfl _ _ R2.out ?_)
          go_roundw
          case rel => exact ⟨k + 1, y, g2, c2, by go_num, by omega, rfl, EX, O3, V3⟩
          case measure => simp [intOf]; omega
        · obtain rfl : k = 3 := by omega
          have hki : ¬ ((3 : Nat) : Int) < 3 := by omega
          have hx3 := HX.out
          subst hx3
          clear HX
          go_wp2
          go_ret
          exact ⟨g, c, rfl, O.out, V.out⟩
end Go.Proofs.Ytkldgcgijkfpaaa

/- Walk: numbers of the two largest parts of the set; that they stay 40 steps. Conditions: a number of eighths. -/
import Derived.Test.YthncniomobfoeaaEl
namespace Go.Proofs.Ythncniomobfoeaa.Circ
open Go
open Quick
/-- Whether a number is in the heart or in the circle beside it. -/
def heartC (x y : Nat) : Option Bool :=
  opg .sub x 1048576000 fun a => opg .add x 1065353216 fun b => opg .mul a a fun p => opg .mul y y fun r => opg .add p r fun q => opg .add q a fun s => opg .mul q s fun t => opg .mul 1048576000 y fun u => opg .mul u y fun v =>
  if le32 t v then some true else opg .mul b b fun m => opg .add m r fun o => some (le32 o 1031798784)
/-- One step of the square. -/
def stepC (p q : Nat) (z : Nat × Nat) : Option (Nat × Nat) :=
  match mulC z.1 z.2 z.1 z.2 with
  | none => none
  | some (m, n) => opg .add m p fun u => opg .add n q fun v => some (u, v)
/-- Steps that are not out. -/
def inC (p q : Nat) : Nat → Nat × Nat → Bool
  | 0, _ => true
  | n + 1, z => fin3 z.1 && fin3 z.2 && (match powC z.1 z.2 with
    | none => false
    | some r => decide (r % 2147483648 < 2139095040) && le32 r 1082130432) && (match stepC p q z with
    | none => false
    | some z' => inC p q n z')
def heartOk (x y : Nat) : Bool :=
  match heartC x y with
  | none => false
  | some true => inC x y 40 (0, 0)
  | some false => true
end Go.Proofs.Ythncniomobfoeaa.Circ
namespace Go.Proofs.Ythncniomobfoeaa
open Go.RowKit
open Num Quick Circ
attribute [local go_sem] run_store_fl run_store_cx
set_option maxRecDepth 100000 in
theorem heart_a : ∀ x : Nat, x < 11 → ∀ y : Nat, y < 33 → heartOk (ew ((x : Int) - 16)) (ew ((y : Int) - 16)) = true := by decide +kernel
set_option maxRecDepth 100000 in
theorem heart_b : ∀ x : Nat, x < 11 → ∀ y : Nat, y < 33 → heartOk (ew ((x : Int) - 5)) (ew ((y : Int) - 16)) = true := by decide +kernel
set_option maxRecDepth 100000 in
theorem heart_c : ∀ x : Nat, x < 11 → ∀ y : Nat, y < 33 → heartOk (ew ((x : Int) + 6)) (ew ((y : Int) - 16)) = true := by decide +kernel
theorem heart_ok {x y : Int} (hx : x.natAbs ≤ 16) (hy : y.natAbs ≤ 16) : heartOk (ew x) (ew y) = true := by
  obtain ⟨b, eb⟩ : ∃ b : Nat, (b : Int) - 16 = y := ⟨(y + 16).toNat, by omega⟩
  rcases (by omega : x ≤ -6 ∨ (-5 ≤ x ∧ x ≤ 5) ∨ 6 ≤ x) with h | h | h
  · obtain ⟨a, ea⟩ : ∃ a : Nat, (a : Int) - 16 = x := ⟨(x + 16).toNat, by omega⟩
    have := heart_a a (by omega) b (by omega)
    rwa [ea, eb] at this
  · obtain ⟨a, ea⟩ : ∃ a : Nat, (a : Int) - 5 = x := ⟨(x + 5).toNat, by omega⟩
    have := heart_b a (by omega) b (by omega)
    rwa [ea, eb] at this
  · obtain ⟨a, ea⟩ : ∃ a : Nat, (a : Int) + 6 = x := ⟨(x - 6).toNat, by omega⟩
    have := heart_c a (by omega) b (by omega)
    rwa [ea, eb] at this
set_option maxRecDepth 100000 in
set_option maxHeartbeats 2000000 in
theorem escape_gen (k m : Nat) (c : Nat × Nat) (f : Nat → Nat × Nat) (o : Nat → Bool) (w : World)
    (hm : m ≤ 128) (io : ∀ i, i < m → ∀ w : World, Calls Try.prog 59 #[.complex .f32 (f i).1 (f i).2] w fun e w' => e = .returned (.bool (o i)) ∧ w' = w)
    (nx : ∀ i, i < m → o i = false → ∀ w : World, Calls Try.prog 35 #[mapV k c, .complex .f32 (f i).1 (f i).2] w fun e w' => e = .returned (.complex .f32 (f (i + 1)).1 (f (i + 1)).2) ∧ Below w.heap.size w w') :
    Calls Try.prog 29 #[mapV k c, .complex .f32 (f 0).1 (f 0).2, .int .i64 (m : Int)] w fun e w' => e = .returned (.tuple #[.int .i64 ((esc o m 0 : Nat) : Int), .complex .f32 (f (esc o m 0)).1 (f (esc o m 0)).2]) ∧ Below w.heap.size w w' := by
  have IO := Lib.hid io
  have NX := Lib.hid nx
  obtain ⟨v, ev⟩ : ∃ v, v = w.alloc (.cells #[.int .i64 (k : Int), .complex .f32 c.1 c.2] 28) := ⟨_, rfl⟩
  have B0 : Hid (Blk v w.heap.size 28 #[.int .i64 (k : Int), .complex .f32 c.1 c.2]) := by rw [ev]; exact Lib.hid (Blk.new _ _ _)
  have V0 : Hid (Below w.heap.size w v) := by rw [ev]; exact Lib.hid (below_new _ _)
  have EV := Lib.hid ev
  obtain ⟨p, q⟩ := c
  unfold mapV at NX
  unfold mapV
  clear io nx ev
  go_enter Try.func29, Try.ntmps29
  go_wp2
  rw [← EV.out]
  clear EV
  go_loopw [1, 10] (fun sz si wr => ∃ i : Nat, i ≤ m ∧ si = .int .i64 (i : Int) ∧ sz = .complex .f32 (f i).1 (f i).2 ∧ Hid (∀ j, j < i → o j = false) ∧ Hid (Blk wr w.heap.size 28 #[.int .i64 (k : Int), .complex .f32 p q]) ∧ Hid (Below w.heap.size w wr)) (fun _ si _ => m - (intOf si).toNat)
  case atStart => exact ⟨0, Nat.zero_le _, rfl, rfl, Lib.hid (fun j hj => absurd hj (by omega)), B0, V0⟩
  case round =>
    clear B0 V0
    obtain ⟨i, hi, rfl, rfl, HJ, B, V⟩ := hrel
    by_cases hlt : i < m
    · have ISO := Lib.hid (IO.out i hlt wr)
      have hii : (i : Int) < (m : Int) := by omega
      cases ho : o i
      · rw [ho] at ISO
        have NXI := Lib.hid (NX.out i hlt ho wr)
        have HJ2 : Hid (∀ j, j < i + 1 → o j = false) := Lib.hid fun j hj => by
          rcases Nat.lt_succ_iff_lt_or_eq.1 hj with hj | rfl
          · exact HJ.out j hj
          · exact ho
        have e0 := B.out.cell 0
        have e1 := B.out.cell 1
        clear ho
        go_wp2_with fail
        refine ISO.out.mono ?_
        rintro e w1 ⟨rfl, hw1⟩
        obtain rfl := hw1.symm
        go_wp2_with fail
        refine NXI.out.mono ?_
        rintro e w2 ⟨rfl, hb2⟩
        have B2 := Lib.hid (B.out.below hb2 B.out.lt)
        have V2 := Lib.hid (V.out.trans (hb2.mono V.out.size))
        clear hb2 B V e0 e1 NXI ISO HJ
        go_wp2
        go_roundw
        case rel => exact ⟨i + 1, by omega, by go_num, rfl, HJ2, B2, V2⟩
        case measure => simp [intOf]; omega
      · rw [ho] at ISO
        have HE : Hid (esc o m 0 = i) := Lib.hid (esc_at (fun j hj => HJ.out j hj) (by omega) (fun _ => ho))
        clear ho
        go_wp2_with fail
        refine ISO.out.mono ?_
        rintro e w1 ⟨rfl, hw1⟩
        obtain rfl := hw1.symm
        go_wp2
        go_ret2
        rw [HE.out]
        exact ⟨rfl, V.out⟩
    · obtain rfl : i = m := by omega
      have HE : Hid (esc o i 0 = i) := Lib.hid (esc_at (fun j hj => HJ.out j hj) (by omega) (fun h => absurd h (by omega)))
      skip
      go_wp2
      go_ret2
      rw [HE.out]
      exact ⟨rfl, V.out⟩
/-- The power of a number, in words. -/
theorem isOut_w {a b r : Nat} (h : powC a b = some r) (hf : Fl .f32 r) (h4 : le32 r 1082130432 = true) (w : World) : Calls Try.prog 59 #[.complex .f32 a b] w fun e w' => e = .returned (.bool false) ∧ w' = w := by
  have P := Lib.hid (fun w => powerOf_calls (w := w) h)
  rw [le32_eq] at h4
  have hg : (FloatKind.f32.format.order r 1082130432 == some .gt) = false := by
    cases e : FloatKind.f32.format.order r 1082130432 with
    | none => rw [e] at h4; cases h4
    | some o => rw [e] at h4; cases o <;> first | decide | cases h4
  have hs : (FloatKind.f32.format.order r r != some .eq) = false := by rw [cmp_eq' hf hf rfl]; decide
  clear h h4 hf
  go_enter Try.func59, Try.ntmps59
  go_wp2_with fail
  refine (P.out _).mono ?_
  rintro e w1 ⟨rfl, hw1⟩
  obtain rfl := hw1.symm
  go_wp2
  go_ret
  exact ⟨rfl, rfl⟩
/-- The numbers that the square leads to. -/
def seqC (p q : Nat) (z : Nat × Nat) : Nat → Nat × Nat
  | 0 => z
  | i + 1 => (stepC p q (seqC p q z i)).getD (0, 0)
theorem seqC_next {p q : Nat} {z z' : Nat × Nat} (h : stepC p q z = some z') : ∀ i, seqC p q z' i = seqC p q z (i + 1)
  | 0 => by show z' = (stepC p q z).getD (0, 0); rw [h]; rfl
  | i + 1 => by
    have := seqC_next h i
    show (stepC p q (seqC p q z' i)).getD (0, 0) = (stepC p q (seqC p q z (i + 1))).getD (0, 0)
    rw [this]
theorem inC_ok {p q : Nat} : ∀ (n : Nat) (z : Nat × Nat), inC p q n z = true → ∀ i, i < n → (∀ w : World, Calls Try.prog 59 #[.complex .f32 (seqC p q z i).1 (seqC p q z i).2] w fun e w' => e = .returned (.bool false) ∧ w' = w) ∧
    (∀ w : World, Calls Try.prog 35 #[mapV 0 (p, q), .complex .f32 (seqC p q z i).1 (seqC p q z i).2] w fun e w' => e = .returned (.complex .f32 (seqC p q z (i + 1)).1 (seqC p q z (i + 1)).2) ∧ Below w.heap.size w w')
  | 0, _, _ => fun i hi => absurd hi (by omega)
  | n + 1, z, h => fun i hi => by
    unfold inC at h
    simp only [Bool.and_eq_true] at h
    obtain ⟨⟨⟨_, _⟩, h3⟩, h4⟩ := h
    cases e1 : powC z.1 z.2 with
    | none => rw [e1] at h3; cases h3
    | some r =>
      rw [e1] at h3
      simp only [Bool.and_eq_true, decide_eq_true_eq] at h3
      cases e2 : stepC p q z with
      | none => rw [e2] at h4; cases h4
      | some z' =>
        rw [e2] at h4
        simp only at h4
        cases i with
        | zero =>
          refine ⟨fun w => isOut_w e1 h3.1 h3.2 w, fun w => ?_⟩
          have e3 : seqC p q z 1 = z' := by show (stepC p q z).getD (0, 0) = z'; rw [e2]; rfl
          rw [Nat.zero_add, e3]
          show Calls Try.prog 35 #[mapV 0 (p, q), .complex .f32 z.1 z.2] w _
          unfold stepC at e2
          cases e4 : mulC z.1 z.2 z.1 z.2 with
          | none => rw [e4] at e2; cases e2
          | some mn =>
            obtain ⟨m, n'⟩ := mn
            rw [e4] at e2
            simp only at e2
            obtain ⟨u, u1, e2⟩ := opg_some e2
            obtain ⟨v, v1, e2⟩ := opg_some e2
            injection e2 with e2
            subst e2
            exact square_once (fun w => mul_calls w e4) (fun w => add_c w u1 v1) w
        | succ i =>
          have := inC_ok n z' h4 i (by omega)
          rw [seqC_next e2, seqC_next e2] at this
          exact this
set_option maxRecDepth 100000 in
set_option maxHeartbeats 1000000 in
theorem InHeart_calls {x y : Nat} {b : Bool} (h : heartC x y = some b) (hc : Cb ((2 : Nat) : Rat) (x, y)) (w : World) : Calls Try.prog 17 #[.complex .f32 x y] w fun e w' => e = .returned (.bool b) ∧ w' = w := by
  have SM := Lib.hid (fun w => isSmall_cb hc (by omega) w)
  unfold heartC at h
  obtain ⟨v1, g1, h⟩ := opg_some h
  obtain ⟨v2, g2, h⟩ := opg_some h
  obtain ⟨v3, g3, h⟩ := opg_some h
  obtain ⟨v4, g4, h⟩ := opg_some h
  obtain ⟨v5, g5, h⟩ := opg_some h
  obtain ⟨v6, g6, h⟩ := opg_some h
  obtain ⟨v7, g7, h⟩ := opg_some h
  obtain ⟨v8, g8, h⟩ := opg_some h
  obtain ⟨v9, g9, h⟩ := opg_some h
  have q1 := r32 g1
  have q2 := r32 g2
  have q3 := r32 g3
  have q4 := r32 g4
  have q5 := r32 g5
  have q6 := r32 g6
  have q7 := r32 g7
  have q8 := r32 g8
  have q9 := r32 g9
  clear g1 g2 g3 g4 g5 g6 g7 g8 g9 hc
  by_cases c : le32 v7 v9 = true
  · rw [if_pos c] at h
    injection h with h
    subst h
    rw [le32_eq] at c
    go_enter Try.func17, Try.ntmps17
    go_wp2_with fail
    refine (SM.out _).mono ?_
    rintro e w1 ⟨rfl, hw1⟩
    obtain rfl := hw1.symm
    go_wp2
    go_ret
    exact ⟨rfl, rfl⟩
  · rw [if_neg c] at h
    obtain ⟨v10, g10, h⟩ := opg_some h
    obtain ⟨v11, g11, h⟩ := opg_some h
    injection h with h
    rw [le32_eq] at c h
    have c : (FloatKind.f32.format.order v7 v9 == some .lt || FloatKind.f32.format.order v7 v9 == some .eq) = false := by simpa using c
    have q10 := r32 g10
    have q11 := r32 g11
    clear g10 g11
    cases b
    all_goals
      go_enter Try.func17, Try.ntmps17
      go_wp2_with fail
      refine (SM.out _).mono ?_
      rintro e w1 ⟨rfl, hw1⟩
      obtain rfl := hw1.symm
      go_wp2
      go_ret
      exact ⟨rfl, rfl⟩
end Go.Proofs.Ythncniomobfoeaa

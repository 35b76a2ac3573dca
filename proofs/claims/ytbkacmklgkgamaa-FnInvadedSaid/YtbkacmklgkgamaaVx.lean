/- Walk: the law on ThresholdOf. Conditions: fewer than 2^63 weights. -/
import Derived.Test.YtbkacmklgkgamaaVw
namespace Go.Proofs.Ytbkacmklgkgamaa
open Go.RowKit

theorem best_ex (xs : List Nat) (P : Int → Prop) : ∀ k, ∃ b, BestTo xs P k b := by
  intro k
  induction k with
  | zero => exact ⟨none, fun i hi => absurd hi (by omega)⟩
  | succ k ih =>
    obtain ⟨b, hb⟩ := ih
    by_cases hp : P (fval (xs.getD k 0))
    · cases b with
      | none => exact ⟨_, hb.first hp⟩
      | some j =>
        by_cases hl : fval (xs.getD k 0) < fval (xs.getD j 0)
        · exact ⟨_, hb.better hp hl⟩
        · exact ⟨_, hb.worse hl⟩
    · exact ⟨_, hb.no hp⟩
theorem best_unique {xs : List Nat} {P : Int → Prop} {k i j : Nat} (h : BestTo xs P k (some i)) (h' : BestTo xs P k (some j)) : i = j := by
  obtain ⟨a1, a2, a3⟩ := h
  obtain ⟨b1, b2, b3⟩ := h'
  obtain ⟨c1, c2⟩ := a3 j b1 b2
  obtain ⟨d1, d2⟩ := b3 i a1 a2
  rcases Nat.lt_trichotomy i j with e | e | e
  · have := d2 e; omega
  · exact e
  · have := c2 e; omega
section
variable {P : Program}
theorem wpList_wide {ops : Array Oper} {rest : List Oper} {o : Oper} {a : Act} {w : World} {Q : Exit → Act → World → Prop} (hgd : o.guard = none) (src dst : TypeId) (xo : Operand) (hop : o.op = .convert src dst xo)
    (x : Nat) (hs : (P.underlying src).isSome = true) (hd : P.underlying dst = some (.float .f64)) (hx : a.eval xo = .float .f32 x)
    (h : ∀ r m, WR x r → wpList P ops Q rest (a.put o.dst (.float .f64 r)) (w.drewN m)) : wpList P ops Q (o :: rest) a w := by
  refine wpList_plain hgd fun K hK => ?_
  unfold Oper.wp
  obtain ⟨r, m, e, hw⟩ := run_wide_op (P := P) hop a x hs hd hx w
  rw [e]
  exact hK _ _ (h r m hw)
end
/-- Both give the same. -/
theorem thr_pair (wd hi : Int) (xs : List Nat) : ∃ (x : Nat) (ok : Bool),
    (∀ (A : Option Addr) (c : Nat) (w : World), xs.length ≤ maxLen → Rd w w.heap.size 1 A xs.length (xs.map fv) → Calls Try.prog 21 #[.slice A xs.length c, .int .i64 wd, .int .i64 hi] w fun e w' => e = .returned (.tuple #[.float .f32 x, .bool ok]) ∧ Below w.heap.size w w') ∧
    (∀ (A : Option Addr) (c : Nat) (w : World), xs.length ≤ maxLen → Rd w w.heap.size 1 A xs.length (xs.map fv) → Calls Try.prog 19 #[.slice A xs.length c, .int .i64 wd, .int .i64 hi] w fun e w' => e = .returned (.tuple #[.float .f32 x, .bool ok]) ∧ Below w.heap.size w w') := by
  cases h : areW wd hi xs.length xs with
  | false => exact ⟨0, false, fun A c w hn hA => specThr_no wd hi A _ c xs w hn hA h, fun A c w hn hA => implThr_no wd hi A _ c xs w hn hA h⟩
  | true =>
    obtain ⟨W, H, rfl, rfl, h1, h2, h3, h4, h5, _, _⟩ := areW_nat h
    obtain ⟨b, hb⟩ := best_ex xs (fun v => SBp (cutB xs v) W xs.length (nbs W H)) xs.length
    have hex := some_spans (xs := xs) h1 h3 h5.symm
    rw [h5] at hex
    cases b with
    | none =>
      exfalso
      obtain ⟨k, hk, hp⟩ := hex
      exact hb k hk hp
    | some j =>
      refine ⟨xs.getD j 0, true, fun A c w _ hA => (specThr_ok W H xs.length A c xs w h1 h2 h3 h4 rfl h5 h hA).mono ?_, fun A c w _ hA => implThr_ok W H xs.length j A c xs w h1 h2 h3 h4 rfl h5 h hA hb⟩
      rintro e w' ⟨j', hb', rfl, hbl⟩
      exact ⟨by rw [best_unique hb' hb], hbl⟩
set_option maxRecDepth 100000 in
set_option maxHeartbeats 400000 in
theorem lawTh_long (wd hi : Int) (A : Option Addr) (n c : Nat) (w : World) (hn : n ≤ maxLen) (hbig : 1048576 < n) :
    Calls Try.prog 5 #[.slice A n c, .int .i64 wd, .int .i64 hi] w fun e w' => e = .returned (.bool true) ∧ Below w.heap.size w w' := by
  unfold maxLen at hn
  go_enter Try.func5, Try.ntmps5
  go_wp2
  go_ret
  exact ⟨rfl, Below.refl _ _⟩
set_option maxRecDepth 100000 in
set_option maxHeartbeats 2000000 in
theorem lawTh_any (wd hi : Int) (A : Option Addr) (n c : Nat) (xs : List Nat) (w : World) (hn : n ≤ 1048576) (hl : xs.length = n) (hA : Rd w w.heap.size 1 A n (xs.map fv)) :
    Calls Try.prog 5 #[.slice A n c, .int .i64 wd, .int .i64 hi] w fun e w' => e = .returned (.bool true) ∧ Below w.heap.size w w' := by
  obtain ⟨x, ok, hspec, himpl⟩ := thr_pair wd hi xs
  rw [hl] at hspec himpl
  have HS := Lib.hid hspec
  have HI := Lib.hid himpl
  have S0 : Hid (Held [.low w, .rd w.heap.size 1 A n (xs.map fv)] w) := Held.put (Held.put (Held.nil _) (Held.of_rd hA)) ⟨Nat.le_refl _, Below.refl _ _⟩
  have hnl : n ≤ maxLen := by unfold maxLen; omega
  have HNL := Lib.hid hnl
  clear hspec himpl hA hl hnl
  go_enter Try.func5, Try.ntmps5
  go_wp2_with fail
  refine (toFloat32S_any A n c xs _ hn (S0.out.rd 1 rfl)).mono ?_
  rintro e w1 ⟨A1, rfl, ho, hb⟩
  have S1 := Lib.hid ((S0.out.below hb).add (f := .own w.heap.size 50 1 (.slice A1 n n) n (xs.map fv)) ho)
  clear ho hb S0
  go_wp2_with fail
  refine (HS.out A1 n w1 HNL.out (Rd.own (S1.out.own 2 rfl))).mono ?_
  rintro e w2 ⟨rfl, hb⟩
  have S2 := Lib.hid (S1.out.below hb)
  clear hb S1
  go_wp2_with fail
  refine (toFloat32S_any A n c xs _ hn (S2.out.rd 1 rfl)).mono ?_
  rintro e w3 ⟨A3, rfl, ho, hb⟩
  have S3 := Lib.hid ((S2.out.below hb).add (f := .own w2.heap.size 50 1 (.slice A3 n n) n (xs.map fv)) ho)
  clear ho hb S2
  go_wp2_with fail
  refine (HI.out A3 n w3 HNL.out (Rd.own (S3.out.own 3 rfl))).mono ?_
  rintro e w4 ⟨rfl, hb⟩
  have S4 := Lib.hid (S3.out.below hb)
  clear hb S3
  go_wp2_with (first
    | (refine wpList_wide rfl 50 56 _ rfl x (by kernel_rfl) Try.underlying56 rfl ?_)
    | fail)
  intro r1 m1 hr1
  have R1 := Lib.hid hr1
  clear hr1
  go_wp2_with (first
    | (refine wpList_wide rfl 50 56 _ rfl x (by kernel_rfl) Try.underlying56 rfl ?_)
    | fail)
  intro r2 m2 hr2
  have SF := Lib.hid (fun w => sameFloat_wide R1.out hr2 w)
  have S5 : Hid (Held [.low w, .rd w.heap.size 1 A n (xs.map fv), .own w.heap.size 50 1 (.slice A1 n n) n (xs.map fv), .own w2.heap.size 50 1 (.slice A3 n n) n (xs.map fv)] (w4.drewN (m1 + m2))) := S4.out.drewN (m1 + m2)
  clear hr2 S4 R1
  go_wp2_with fail
  try simp only [World.drewN_drewN]
  generalize hw5 : w4.drewN (m1 + m2) = w5 at *
  clear hw5
  refine (SF.out _).mono ?_
  rintro e w6 ⟨rfl, h6⟩
  obtain rfl := h6.symm
  clear SF
  have hoo : (!(ok == ok)) = false := by simp
  go_wp2_with fail
  refine (toFloat32S_any A n c xs _ hn (S5.out.rd 1 rfl)).mono ?_
  rintro e w7 ⟨A7, rfl, ho, hb⟩
  have S7 := Lib.hid ((S5.out.below hb).add (f := .own w5.heap.size 50 1 (.slice A7 n n) n (xs.map fv)) ho)
  clear ho hb S5
  go_wp2_with fail
  refine (eqFloat32S_same A3 A7 n n n xs _ HNL.out (Rd.own (S7.out.own 3 rfl)) (Rd.own (S7.out.own 4 rfl))).mono ?_
  rintro e w8 ⟨rfl, hb⟩
  have S8 := Lib.hid (S7.out.below hb)
  clear hb S7
  go_wp2
  go_ret
  exact ⟨rfl, (S8.out.low 0 rfl).2⟩
end Go.Proofs.Ytbkacmklgkgamaa

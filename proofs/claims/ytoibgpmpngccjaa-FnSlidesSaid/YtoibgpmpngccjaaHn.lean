/- Walk: DropOn, where its arguments are not valid, by the reference; whether they are, by the program. Conditions: none. -/
import Derived.Test.YtoibgpmpngccjaaHo
namespace Go.Proofs.Ytoibgpmpngccjaa
open Go.RowKit

def okDrop (W H : Int) (xs : List Nat) (x y st : Int) (tk lv : Nat) : Bool := okSheet W H xs && inB x 0 (W - 1) && inB y 0 (H - 1) && inB st 0 128 && (okTake tk && okShare lv)
theorem okSheet_sides {W H : Int} {xs : List Nat} (h : okSheet W H xs = true) : 1 ≤ W ∧ W ≤ 17 ∧ 1 ≤ H ∧ H ≤ 17 ∧ (xs.length : Int) = W * H ∧ xs.all finW = true := by
  unfold okSheet at h
  simp only [Bool.and_eq_true, decide_eq_true_eq] at h
  obtain ⟨⟨⟨h1, h2⟩, h3⟩, h4⟩ := h
  rw [inB_iff] at h1 h2
  exact ⟨h1.1, h1.2, h2.1, h2.2, h3, h4⟩
set_option maxRecDepth 100000 in
set_option maxHeartbeats 4000000 in
theorem areDrops_any (W H st : Int) (tk lv : Nat) (A : Option Addr) (n c : Nat) (xs : List Nat) (w : World) (hn : n ≤ maxLen) (hA : Rd w w.heap.size 1 A n (xs.map fv)) :
    Calls Try.prog 28 #[.agg #[.int .i64 W, .int .i64 H, .slice A n c], .int .i64 st, .float .f32 tk, .float .f32 lv] w fun e w' => e = .returned (.bool (okSheet W H xs && inB st 0 128 && (okTake tk && okShare lv))) ∧ Below w.heap.size w w' := by
  obtain ⟨v, ev⟩ : ∃ v, v = w.alloc (.cells #[.int .i64 W, .int .i64 H, .slice A n c] 26) := ⟨_, rfl⟩
  have V0 : Hid (Below w.heap.size w v) := by rw [ev]; exact (Below.refl _ _).alloc (Nat.le_refl _) _
  have VS := Lib.hid (ValidSheet_any W H A n c xs v hn ((hA.below V0.out).more V0.out.size))
  have L1 := Lib.hid (fun w => within_any st 0 128 w)
  have L2 := Lib.hid (fun w => isShare_any lv w)
  have EV := Lib.hid ev
  have HT : Hid (okTake tk = (geF tk 0 && leF tk 1056964608)) := rfl
  unfold geF leF at HT
  clear ev hA hn
  generalize okSheet W H xs = q0 at *
  generalize inB st 0 128 = q1 at *
  generalize okShare lv = q2 at *
  cases q0
  · go_enter Try.func28, Try.ntmps28
    go_wp2_with fail
    rw [← EV.out]
    refine VS.out.mono ?_
    rintro e w1 ⟨rfl, hb⟩
    have V1 := Lib.hid (V0.out.trans (hb.mono V0.out.size))
    clear hb
    go_wp2
    go_ret
    exact ⟨ret_bool (by simp), V1.out⟩
  cases q1
  · go_enter Try.func28, Try.ntmps28
    go_wp2_with fail
    rw [← EV.out]
    refine VS.out.mono ?_
    rintro e w1 ⟨rfl, hb⟩
    have V1 := Lib.hid (V0.out.trans (hb.mono V0.out.size))
    clear hb
    go_wp2_with fail
    refine (L1.out _).mono ?_
    rintro e w2 ⟨rfl, hw2⟩
    obtain rfl := hw2
    go_wp2
    go_ret
    exact ⟨ret_bool (by simp), V1.out⟩
  cases h1 : (FloatKind.f32.format.order tk 0 == some Ordering.gt || FloatKind.f32.format.order tk 0 == some Ordering.eq) <;> cases h2 : (FloatKind.f32.format.order tk 1056964608 == some Ordering.lt || FloatKind.f32.format.order tk 1056964608 == some Ordering.eq)
  · rw [h1, h2] at HT
    go_enter Try.func28, Try.ntmps28
    go_wp2_with fail
    rw [← EV.out]
    refine VS.out.mono ?_
    rintro e w1 ⟨rfl, hb⟩
    have V1 := Lib.hid (V0.out.trans (hb.mono V0.out.size))
    clear hb
    go_wp2_with fail
    refine (L1.out _).mono ?_
    rintro e w2 ⟨rfl, hw2⟩
    obtain rfl := hw2
    go_wp2
    go_ret
    exact ⟨ret_bool (by rw [HT.out]; simp), V1.out⟩
  · rw [h1, h2] at HT
    go_enter Try.func28, Try.ntmps28
    go_wp2_with fail
    rw [← EV.out]
    refine VS.out.mono ?_
    rintro e w1 ⟨rfl, hb⟩
    have V1 := Lib.hid (V0.out.trans (hb.mono V0.out.size))
    clear hb
    go_wp2_with fail
    refine (L1.out _).mono ?_
    rintro e w2 ⟨rfl, hw2⟩
    obtain rfl := hw2
    go_wp2
    go_ret
    exact ⟨ret_bool (by rw [HT.out]; simp), V1.out⟩
  · rw [h1, h2] at HT
    go_enter Try.func28, Try.ntmps28
    go_wp2_with fail
    rw [← EV.out]
    refine VS.out.mono ?_
    rintro e w1 ⟨rfl, hb⟩
    have V1 := Lib.hid (V0.out.trans (hb.mono V0.out.size))
    clear hb
    go_wp2_with fail
    refine (L1.out _).mono ?_
    rintro e w2 ⟨rfl, hw2⟩
    obtain rfl := hw2
    go_wp2
    go_ret
    exact ⟨ret_bool (by rw [HT.out]; simp), V1.out⟩
  · rw [h1, h2] at HT
    go_enter Try.func28, Try.ntmps28
    go_wp2_with fail
    rw [← EV.out]
    refine VS.out.mono ?_
    rintro e w1 ⟨rfl, hb⟩
    have V1 := Lib.hid (V0.out.trans (hb.mono V0.out.size))
    clear hb
    go_wp2_with fail
    refine (L1.out _).mono ?_
    rintro e w2 ⟨rfl, hw2⟩
    obtain rfl := hw2
    go_wp2_with fail
    refine (L2.out _).mono ?_
    rintro e w2 ⟨rfl, hw2⟩
    obtain rfl := hw2
    go_wp2
    go_ret
    exact ⟨ret_bool (by rw [HT.out]; simp), V1.out⟩
end Go.Proofs.Ytoibgpmpngccjaa

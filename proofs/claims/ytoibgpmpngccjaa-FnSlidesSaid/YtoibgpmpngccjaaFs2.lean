/- Walks: whether a sheet and a drop's rule are valid, by the program and by the reference. Conditions: as each says. -/
import Derived.Test.YtoibgpmpngccjaaIb
import Derived.Test.YtoibgpmpngccjaaFv
namespace Go.Proofs.Ytoibgpmpngccjaa
open Go.RowKit

def okSheet (W H : Int) (xs : List Nat) : Bool := inB W 1 17 && inB H 1 17 && decide ((xs.length : Int) = W * H) && xs.all finW
def geF (x c : Nat) : Bool := FloatKind.f32.format.order x c == some Ordering.gt || FloatKind.f32.format.order x c == some Ordering.eq
def leF (x c : Nat) : Bool := FloatKind.f32.format.order x c == some Ordering.lt || FloatKind.f32.format.order x c == some Ordering.eq
def okShare (x : Nat) : Bool := geF x 0 && leF x 1065353216
def okTake (x : Nat) : Bool := geF x 0 && leF x 1056964608
theorem inB_iff {n l h : Int} : inB n l h = true ↔ l ≤ n ∧ n ≤ h := by unfold inB; simp

set_option maxHeartbeats 400000 in
theorem within_any (n l h : Int) (w : World) : Calls Try.prog 29 #[.int .i64 n, .int .i64 l, .int .i64 h] w fun e w' => e = .returned (.bool (inB n l h)) ∧ w' = w := by
  by_cases h1 : l ≤ n
  · by_cases h2 : n ≤ h
    · go_enter Try.func29, Try.ntmps29
      go_wp2
      go_ret
      exact ⟨ret_bool (by unfold inB; symm; simp; omega), rfl⟩
    · go_enter Try.func29, Try.ntmps29
      go_wp2
      go_ret
      exact ⟨ret_bool (by unfold inB; symm; simp; omega), rfl⟩
  · go_enter Try.func29, Try.ntmps29
    go_wp2
    go_ret
    exact ⟨ret_bool (by unfold inB; symm; simp; omega), rfl⟩
set_option maxHeartbeats 400000 in
theorem l00In_any (n l h : Int) (w : World) : Calls Try.prog 34 #[.int .i64 n, .int .i64 l, .int .i64 h] w fun e w' => e = .returned (.bool (inB n l h)) ∧ w' = w := by
  by_cases h1 : l ≤ n
  · by_cases h2 : n ≤ h
    · go_enter Try.func34, Try.ntmps34
      go_wp2
      go_ret
      exact ⟨ret_bool (by unfold inB; symm; simp; omega), rfl⟩
    · go_enter Try.func34, Try.ntmps34
      go_wp2
      go_ret
      exact ⟨ret_bool (by unfold inB; symm; simp; omega), rfl⟩
  · go_enter Try.func34, Try.ntmps34
    go_wp2
    go_ret
    exact ⟨ret_bool (by unfold inB; symm; simp; omega), rfl⟩
set_option maxHeartbeats 400000 in
theorem isSheetSide_any (n : Int) (w : World) : Calls Try.prog 21 #[.int .i64 n] w fun e w' => e = .returned (.bool (inB n 1 17)) ∧ w' = w := by
  go_enter Try.func21, Try.ntmps21
  go_wp2_with (go_at_call 29; refine (within_any _ _ _ _).mono ?_; rintro e w' ⟨rfl, rfl⟩)
  go_ret
  exact ⟨rfl, rfl⟩
private theorem prod_in {W H : Int} (hW : inB W 1 17 = true) (hH : inB H 1 17 = true) : ∃ p : Int, W * H = p ∧ 1 ≤ p ∧ p ≤ 289 := by
  rw [inB_iff] at hW hH
  refine ⟨_, rfl, ?_, ?_⟩
  · have := Int.mul_le_mul hW.1 hH.1 (by omega) (by omega)
    omega
  · have := Int.mul_le_mul hW.2 hH.2 (by omega) (by omega)
    omega
set_option maxRecDepth 100000 in
set_option maxHeartbeats 2000000 in
theorem l05Is_any (W H : Int) (A : Option Addr) (n c g B : Nat) (xs : List Nat) (w : World) (hn : n ≤ maxLen) (hbk : Blk w g 26 #[.int .i64 W, .int .i64 H, .slice A n c]) (hA : Rd w B 1 A n (xs.map fv)) :
    Calls Try.prog 33 #[.pointer (some ⟨g, 0, none⟩)] w fun e w' => e = .returned (.bool (okSheet W H xs)) ∧ ∃ m, w' = w.drewN m := by
  have hl : xs.length = n := by have := hA.len; simpa using this
  have H3 := Lib.hid (fun m => l02Finite_any A n c B xs (w.drewN m) hn hA)
  have c0 : w.cell? ⟨g, 0, none⟩ = some (.int .i64 W) := hbk.cell 0
  have c1 : w.cell? ⟨g, 1, none⟩ = some (.int .i64 H) := hbk.cell 1
  have c2 : w.cell? ⟨g, 2, none⟩ = some (.slice A n c) := hbk.cell 2
  unfold maxLen at hn
  have HOK : Hid (okSheet W H xs = (inB W 1 17 && inB H 1 17 && decide ((n : Int) = W * H) && xs.all finW)) := by unfold Hid okSheet; rw [hl]
  have HP := Lib.hid (@prod_in W H)
  clear hbk hA hl
  obtain ⟨q, hq⟩ : ∃ q, xs.all finW = q := ⟨_, rfl⟩
  rw [hq] at H3 HOK
  clear hq
  obtain ⟨x, hx⟩ : ∃ x, inB W 1 17 = x := ⟨_, rfl⟩
  obtain ⟨y, hy⟩ : ∃ y, inB H 1 17 = y := ⟨_, rfl⟩
  have HZ : Hid (∀ z q, (z = W ∧ q = x) ∨ (z = H ∧ q = y) → ∀ w, Calls Try.prog 34 #[.int .i64 z, .int .i64 1, .int .i64 17] w fun e w' => e = .returned (.bool q) ∧ w' = w) := fun z q h w => by
    rcases h with ⟨rfl, rfl⟩ | ⟨rfl, rfl⟩
    · rw [← hx]; exact l00In_any _ 1 17 w
    · rw [← hy]; exact l00In_any _ 1 17 w
  rw [hx, hy] at HOK HP
  clear hx hy
  cases x
  · go_enter Try.func33, Try.ntmps33
    go_wp2
    go_quiet ((go_at_call 34; exact Calls.quiet_of_same (HZ.out _ _ (by first | exact .inl ⟨rfl, rfl⟩ | exact .inr ⟨rfl, rfl⟩) _)))
    go_wp2
    go_ret
    exact ⟨ret_bool (by rw [HOK.out]; simp), _, rfl⟩
  cases y
  · go_enter Try.func33, Try.ntmps33
    go_wp2
    go_quiet ((go_at_call 34; exact Calls.quiet_of_same (HZ.out _ _ (by first | exact .inl ⟨rfl, rfl⟩ | exact .inr ⟨rfl, rfl⟩) _)))
    go_wp2
    go_ret
    exact ⟨ret_bool (by rw [HOK.out]; simp), _, rfl⟩
  obtain ⟨p, hp, hp1, hp2⟩ := HP.out rfl rfl
  have HWH : Hid (W * H = p) := hp
  by_cases hz : (n : Int) = p
  · have HOK2 : Hid (okSheet W H xs = q) := by unfold Hid; rw [HOK.out, hp]; simp [hz]
    have hz' : ((n : Int) == p) = true := by simpa using hz
    clear hz
    go_enter Try.func33, Try.ntmps33
    go_wp2
    go_quiet (first
      | (go_at_call 34; exact Calls.quiet_of_same (HZ.out _ _ (by first | exact .inl ⟨rfl, rfl⟩ | exact .inr ⟨rfl, rfl⟩) _))
      | (go_at_call 54; exact Calls.quiet_of (H3.out _)))
    go_wp2
    go_ret
    exact ⟨ret_bool (by rw [HOK2.out]), _, rfl⟩
  · have HOK2 : Hid (okSheet W H xs = false) := by unfold Hid; rw [HOK.out, hp]; simp [hz]
    have hz' : ((n : Int) == p) = false := by simpa using hz
    clear hz
    go_enter Try.func33, Try.ntmps33
    go_wp2
    go_quiet (first
      | (go_at_call 34; exact Calls.quiet_of_same (HZ.out _ _ (by first | exact .inl ⟨rfl, rfl⟩ | exact .inr ⟨rfl, rfl⟩) _))
      | (go_at_call 54; exact Calls.quiet_of (H3.out _)))
    go_wp2
    go_ret
    exact ⟨ret_bool (by rw [HOK2.out]), _, rfl⟩
set_option maxRecDepth 100000 in
set_option maxHeartbeats 2000000 in
theorem ValidSheet_any (W H : Int) (A : Option Addr) (n c : Nat) (xs : List Nat) (w : World) (hn : n ≤ maxLen) (hA : Rd w w.heap.size 1 A n (xs.map fv)) :
    Calls Try.prog 24 #[.agg #[.int .i64 W, .int .i64 H, .slice A n c]] w fun e w' => e = .returned (.bool (okSheet W H xs)) ∧ Below w.heap.size w w' := by
  have hl : xs.length = n := by have := hA.len; simpa using this
  have H1 := Lib.hid (fun w => isSheetSide_any W w)
  have H2 := Lib.hid (fun w => isSheetSide_any H w)
  have HB : Hid (Below w.heap.size w (w.alloc (.cells #[.int .i64 W, .int .i64 H, .slice A n c] 26))) := (Below.refl _ _).alloc (Nat.le_refl _) _
  have H3 := Lib.hid (areFinite_any A n c w.heap.size xs (w.alloc (.cells #[.int .i64 W, .int .i64 H, .slice A n c] 26)) hn (hA.below HB.out))
  unfold maxLen at hn
  have HOK : Hid (okSheet W H xs = (inB W 1 17 && inB H 1 17 && decide ((n : Int) = W * H) && xs.all finW)) := by unfold Hid okSheet; rw [hl]
  have HP := Lib.hid (@prod_in W H)
  clear hA hl
  obtain ⟨x, hx⟩ : ∃ x, inB W 1 17 = x := ⟨_, rfl⟩
  obtain ⟨y, hy⟩ : ∃ y, inB H 1 17 = y := ⟨_, rfl⟩
  obtain ⟨q, hq⟩ : ∃ q, xs.all finW = q := ⟨_, rfl⟩
  rw [hx] at H1 HOK HP
  rw [hy] at H2 HOK HP
  rw [hq] at H3 HOK
  clear hx hy hq
  cases x
  · go_enter Try.func24, Try.ntmps24
    go_wp2_with fail
    refine (H1.out _).mono ?_
    rintro e w' ⟨rfl, rfl⟩
    go_wp2
    go_ret
    exact ⟨ret_bool (by rw [HOK.out]; simp), HB.out⟩
  cases y
  · go_enter Try.func24, Try.ntmps24
    go_wp2_with fail
    refine (H1.out _).mono ?_
    rintro e w' ⟨rfl, rfl⟩
    go_wp2_with fail
    refine (H2.out _).mono ?_
    rintro e w' ⟨rfl, rfl⟩
    go_wp2
    go_ret
    exact ⟨ret_bool (by rw [HOK.out]; simp), HB.out⟩
  obtain ⟨p, hp, hp1, hp2⟩ := HP.out rfl rfl
  have HWH : Hid (W * H = p) := hp
  by_cases hz : (n : Int) = p
  · have HOK2 : Hid (okSheet W H xs = q) := by unfold Hid; rw [HOK.out, hp]; simp [hz]
    have hz' : ((n : Int) == p) = true := by simpa using hz
    clear hz
    go_enter Try.func24, Try.ntmps24
    go_wp2_with fail
    refine (H1.out _).mono ?_
    rintro e w' ⟨rfl, rfl⟩
    go_wp2_with fail
    refine (H2.out _).mono ?_
    rintro e w' ⟨rfl, rfl⟩
    go_wp2_with fail
    refine H3.out.mono ?_
    rintro e w' ⟨rfl, m, hw⟩
    have HW := Lib.hid hw
    clear hw
    go_wp2
    go_ret
    exact ⟨ret_bool (by rw [HOK2.out]), by rw [HW.out]; exact below_drewN' HB.out m⟩
  · have HOK2 : Hid (okSheet W H xs = false) := by unfold Hid; rw [HOK.out, hp]; simp [hz]
    have hz' : ((n : Int) == p) = false := by simpa using hz
    clear hz
    go_enter Try.func24, Try.ntmps24
    go_wp2_with fail
    refine (H1.out _).mono ?_
    rintro e w' ⟨rfl, rfl⟩
    go_wp2_with fail
    refine (H2.out _).mono ?_
    rintro e w' ⟨rfl, rfl⟩
    go_wp2
    go_ret
    exact ⟨ret_bool (by rw [HOK2.out]), HB.out⟩
set_option maxHeartbeats 400000 in
theorem l02Share_any (x : Nat) (w : World) : Calls Try.prog 55 #[.float .f32 x] w fun e w' => e = .returned (.bool (okShare x)) ∧ w' = w := by
  have HS : Hid (okShare x = (geF x 0 && leF x 1065353216)) := rfl
  unfold geF leF at HS
  cases h1 : (FloatKind.f32.format.order x 0 == some Ordering.gt || FloatKind.f32.format.order x 0 == some Ordering.eq) <;> cases h2 : (FloatKind.f32.format.order x 1065353216 == some Ordering.lt || FloatKind.f32.format.order x 1065353216 == some Ordering.eq)
  all_goals
    rw [h1, h2] at HS
    go_enter Try.func55, Try.ntmps55
    go_wp2
    go_ret
    exact ⟨ret_bool (by rw [HS.out]; rfl), rfl⟩
set_option maxHeartbeats 400000 in
theorem isShare_any (x : Nat) (w : World) : Calls Try.prog 53 #[.float .f32 x] w fun e w' => e = .returned (.bool (okShare x)) ∧ w' = w := by
  have HS : Hid (okShare x = (geF x 0 && leF x 1065353216)) := rfl
  unfold geF leF at HS
  cases h1 : (FloatKind.f32.format.order x 0 == some Ordering.gt || FloatKind.f32.format.order x 0 == some Ordering.eq) <;> cases h2 : (FloatKind.f32.format.order x 1065353216 == some Ordering.lt || FloatKind.f32.format.order x 1065353216 == some Ordering.eq)
  all_goals
    rw [h1, h2] at HS
    go_enter Try.func53, Try.ntmps53
    go_wp2
    go_ret
    exact ⟨ret_bool (by rw [HS.out]; rfl), rfl⟩
set_option maxHeartbeats 400000 in
theorem l05Rule_any (t l : Nat) (w : World) : Calls Try.prog 35 #[.float .f32 t, .float .f32 l] w fun e w' => e = .returned (.bool (okTake t && okShare l)) ∧ w' = w := by
  have SC := Lib.hid (fun w => l02Share_any l w)
  have HS : Hid (okTake t = (geF t 0 && leF t 1056964608)) := rfl
  unfold geF leF at HS
  generalize okShare l = q at *
  cases h1 : (FloatKind.f32.format.order t 0 == some Ordering.gt || FloatKind.f32.format.order t 0 == some Ordering.eq) <;> cases h2 : (FloatKind.f32.format.order t 1056964608 == some Ordering.lt || FloatKind.f32.format.order t 1056964608 == some Ordering.eq)
  · rw [h1, h2] at HS
    go_enter Try.func35, Try.ntmps35
    go_wp2
    go_ret
    exact ⟨ret_bool (by rw [HS.out]; rfl), rfl⟩
  · rw [h1, h2] at HS
    go_enter Try.func35, Try.ntmps35
    go_wp2
    go_ret
    exact ⟨ret_bool (by rw [HS.out]; rfl), rfl⟩
  · rw [h1, h2] at HS
    go_enter Try.func35, Try.ntmps35
    go_wp2
    go_ret
    exact ⟨ret_bool (by rw [HS.out]; rfl), rfl⟩
  · rw [h1, h2] at HS
    go_enter Try.func35, Try.ntmps35
    go_wp2_with fail
    refine (SC.out _).mono ?_
    rintro e w' ⟨rfl, rfl⟩
    go_wp2
    go_ret
    exact ⟨ret_bool (by rw [HS.out]; simp), rfl⟩
end Go.Proofs.Ytoibgpmpngccjaa

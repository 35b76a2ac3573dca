/- Walks: whether two numbers are the same; what is kept is found again in order; constant pieces that cross. -/
import Derived.Test.YtkldgcgijkfpaaaCoq
import Derived.Test.YtkldgcgijkfpaaaCom
namespace Go.Proofs.Ytkldgcgijkfpaaa
open Go.RowKit
open Num Quick
attribute [local go_sem] run_store_fl run_store_cx

def sgb (x : Nat) : Bool := decide (wrap64 (x : Int) < 0)
theorem signbit_w (x : Nat) (w : World) : Calls Try.prog 65 #[.float .f64 x] w fun e w' => e = .returned (.bool (sgb x)) ∧ w' = w := by
  unfold sgb
  have h1 := rBits64 x
  go_enter Try.func65, Try.ntmps65
  go_wp2
  go_ret
  exact ⟨rfl, rfl⟩
theorem sameNumber_w {x y : Nat} (hx : Fl .f32 x) (hy : Fl .f32 y) : ∃ b : Bool, (∀ w : World, Calls Try.prog 36 #[.float .f32 x, .float .f32 y] w fun e w' => e = .returned (.bool b) ∧ w' = w) ∧ (x = y → b = true) := by
  obtain ⟨X, x1, _⟩ := fwide hx
  obtain ⟨Y, y1, _⟩ := fwide hy
  have hb1 := fun w => signbit_w X w
  have hb2 := fun w => signbit_w Y w
  obtain ⟨b1, eb1⟩ : ∃ b, sgb X = b := ⟨_, rfl⟩
  obtain ⟨b2, eb2⟩ : ∃ b, sgb Y = b := ⟨_, rfl⟩
  have e1 : (FloatKind.f32.format.order x x != some .eq) = false := by rw [cmp_eq' hx hx rfl]; decide
  have e2 : (FloatKind.f32.format.order y y != some .eq) = false := by rw [cmp_eq' hy hy rfl]; decide
  obtain ⟨o, eo⟩ : ∃ b, (FloatKind.f32.format.order x y == some .eq) = b := ⟨_, rfl⟩
  have hxy : x = y → o = true ∧ b1 = b2 := fun h => by
    subst h
    refine ⟨by rw [← eo, cmp_eq' hx hx rfl]; decide, ?_⟩
    obtain rfl : X = Y := Option.some.inj (x1.symm.trans y1)
    rw [← eb1, ← eb2]
  rw [eb1] at hb1
  rw [eb2] at hb2
  have k1 := rWide x1
  have k2 := rWide y1
  have HB1 := Lib.hid hb1
  have HB2 := Lib.hid hb2
  refine ⟨o && (b1 == b2), fun w => ?_, fun h => by obtain ⟨h1, h2⟩ := hxy h; rw [h1, h2]; cases b2 <;> rfl⟩
  clear hb1 hb2 hxy x1 y1 hx hy eb1 eb2
  go_enter Try.func36, Try.ntmps36
  cases o
  · go_wp2
    go_ret
    exact ⟨rfl, rfl⟩
  · go_wp2_with fail
    refine (HB1.out _).mono ?_
    rintro e w1 ⟨rfl, hw⟩
    obtain rfl := hw.symm
    go_wp2_with fail
    refine (HB2.out _).mono ?_
    rintro e w1 ⟨rfl, hw⟩
    obtain rfl := hw.symm
    go_wp2
    go_ret
    exact ⟨ret_b (by cases b1 <;> cases b2 <;> rfl), rfl⟩
theorem sameComplex_w {a b : Nat × Nat} (ha1 : Fl .f32 a.1) (ha2 : Fl .f32 a.2) (hb1 : Fl .f32 b.1) (hb2 : Fl .f32 b.2) : ∃ r : Bool, (∀ w : World, Calls Try.prog 12 #[.complex .f32 a.1 a.2, .complex .f32 b.1 b.2] w fun e w' => e = .returned (.bool r) ∧ w' = w) ∧ (a = b → r = true) := by
  obtain ⟨r1, h1, k1⟩ := sameNumber_w ha1 hb1
  obtain ⟨r2, h2, k2⟩ := sameNumber_w ha2 hb2
  refine ⟨r1 && r2, fun w => ?_, fun h => by rw [k1 (by rw [h]), k2 (by rw [h])]; rfl⟩
  have C1 := Lib.hid h1
  have C2 := Lib.hid h2
  clear h1 h2 k1 k2 ha1 ha2 hb1 hb2
  go_enter Try.func12, Try.ntmps12
  go_wp2_with fail
  refine (C1.out _).mono ?_
  rintro e w1 ⟨rfl, hw⟩
  obtain rfl := hw.symm
  cases r1
  · go_wp2
    go_ret
    exact ⟨rfl, rfl⟩
  · go_wp2_with fail
    refine (C2.out _).mono ?_
    rintro e w1 ⟨rfl, hw⟩
    obtain rfl := hw.symm
    go_wp2
    go_ret
    exact ⟨rfl, rfl⟩
/-- One number is the same as itself. -/
theorem same_self {x y : Nat} (hx : Fl .f32 x) (hy : Fl .f32 y) (w : World) : Calls Try.prog 12 #[.complex .f32 x y, .complex .f32 x y] w fun e w' => e = .returned (.bool true) ∧ w' = w := by
  obtain ⟨r, h, k⟩ := sameComplex_w (a := (x, y)) (b := (x, y)) hx hy hx hy
  have := h w
  rwa [k rfl] at this
/-- Looking for the kept ones in order: all with an index below k are behind 'at'. -/
def Seen (J : List Nat) (k p : Nat) : Prop := p ≤ J.length ∧ ∀ t, t < J.length → J.getD t 0 < k → t < p
theorem Seen.zero (J : List Nat) : Seen J 0 0 := ⟨Nat.zero_le _, fun t _ h => absurd h (by omega)⟩
theorem sorted_get {J : List Nat} (h : J.Pairwise (· < ·)) {s t : Nat} (hs : s < t) (ht : t < J.length) : J.getD s 0 < J.getD t 0 := by
  rw [List.getD_eq_getElem?_getD, List.getD_eq_getElem?_getD, List.getElem?_eq_getElem (by omega), List.getElem?_eq_getElem ht]
  exact List.pairwise_iff_getElem.1 h s t (by omega) ht hs
theorem Seen.hit {J : List Nat} {k p : Nat} (h : Seen J k p) (hJ : J.Pairwise (· < ·)) (hp : p < J.length) : Seen J (k + 1) (p + 1) := by
  refine ⟨hp, fun t ht hk => ?_⟩
  rcases Nat.lt_or_ge (J.getD t 0) k with c | c
  · have := h.2 t ht c; omega
  · rcases Nat.lt_or_ge p t with d | d
    · exfalso
      have := sorted_get hJ d ht
      have := h.2 p hp (by omega)
      omega
    · omega
theorem Seen.miss {J : List Nat} {k p : Nat} (h : Seen J k p) (hJ : J.Pairwise (· < ·)) (hm : p < J.length → J.getD p 0 ≠ k) : Seen J (k + 1) p := by
  refine ⟨h.1, fun t ht hk => ?_⟩
  rcases Nat.lt_or_ge (J.getD t 0) k with c | c
  · exact h.2 t ht c
  · rcases Nat.lt_trichotomy p t with d | d | d
    · exfalso
      have hpl : p < J.length := by omega
      have := sorted_get hJ d ht
      have := h.2 p hpl (by omega)
      omega
    · subst d
      exact absurd (show J.getD p 0 = k by omega) (hm ht)
    · exact d
theorem Seen.all {J : List Nat} {n p : Nat} (h : Seen J n p) (hJ : ∀ j ∈ J, j < n) : p = J.length := by
  have h1 := h.1
  rcases Nat.eq_zero_or_pos J.length with c | c
  · omega
  · have hlt : J.length - 1 < J.length := by omega
    have := h.2 (J.length - 1) hlt (by
      rw [List.getD_eq_getElem?_getD, List.getElem?_eq_getElem hlt]
      exact hJ _ (List.getElem_mem _))
    omega
/-- The kept ones with both ends. -/
theorem Keep.ends {n : Nat} {J : List Nat} (h : Keep n J) (hn : 2 ≤ n) : ([0] ++ J ++ [n - 1]).Pairwise (· < ·) ∧ ∀ j ∈ [0] ++ J ++ [n - 1], j < n := by
  refine ⟨?_, fun j hj => ?_⟩
  · rw [List.pairwise_append, List.pairwise_append]
    refine ⟨⟨List.pairwise_singleton _ _, h.sorted, fun a ha b hb => ?_⟩, List.pairwise_singleton _ _, fun a ha b hb => ?_⟩
    · rw [List.mem_singleton.1 ha]
      exact h.lo b hb
    · rw [List.mem_singleton.1 hb]
      rcases List.mem_append.1 ha with c | c
      · rw [List.mem_singleton.1 c]
        omega
      · have := h.hi a c
        omega
  · rcases List.mem_append.1 hj with c | c
    · rcases List.mem_append.1 c with d | d
      · rw [List.mem_singleton.1 d]; omega
      · have := h.hi j d; omega
    · rw [List.mem_singleton.1 c]; omega
/-- Constant pieces. -/
def sqF (i : Nat) : Nat × Nat := if i = 0 then (0, 0) else if i = 1 then (1065353216, 0) else if i = 2 then (1073741824, 0) else (1073741824, 1065353216)
theorem fl_of (x : Nat) (h : x % FloatKind.f32.format.signWeight < FloatKind.f32.format.infRung) : Fl .f32 x := h
theorem smallc : ∀ x ∈ [0, 1065353216, 1073741824, 1077936128, 3212836864], Fl .f32 x ∧ InR (Num.fv .f32 x) 32 := by
  intro x hx
  simp only [List.mem_cons, List.not_mem_nil, or_false] at hx
  rcases hx with rfl | rfl | rfl | rfl | rfl
  all_goals
    refine ⟨fl_of _ (by decide +kernel), ?_⟩
    unfold InR Num.fv val rv p2
    decide +kernel
theorem cb_of {x y : Nat} (hx : x ∈ [0, 1065353216, 1073741824, 1077936128, 3212836864]) (hy : y ∈ [0, 1065353216, 1073741824, 1077936128, 3212836864]) : Cb ((32 : Nat) : Rat) (x, y) := by
  have e : ((32 : Nat) : Rat) = 32 := rfl
  rw [e]
  exact ⟨(smallc x hx).1, (smallc y hy).1, (smallc x hx).2, (smallc y hy).2⟩
theorem sqF_cb (i : Nat) : Cb ((32 : Nat) : Rat) (sqF i) := by
  unfold sqF
  split
  · exact cb_of (by simp) (by simp)
  · split
    · exact cb_of (by simp) (by simp)
    · split
      · exact cb_of (by simp) (by simp)
      · exact cb_of (by simp) (by simp)
def crossB (a b c d : Nat × Nat) : Bool := match crossS a b c d with
  | some (s1, s2, s3, s4) => !(differ s1 s2 && differ s3 s4)
  | none => false
def crossT (a b c d : Nat × Nat) : Bool := match crossS a b c d with
  | some (s1, s2, s3, s4) => (differ s1 s2 && differ s3 s4)
  | none => false
theorem crossB_of {a b c d : Nat × Nat} (h : crossB a b c d = true) : ∃ s1 s2 s3 s4, crossS a b c d = some (s1, s2, s3, s4) ∧ (differ s1 s2 && differ s3 s4) = false := by
  unfold crossB at h
  split at h
  · rename_i s1 s2 s3 s4 e
    exact ⟨s1, s2, s3, s4, e, by cases e2 : (differ s1 s2 && differ s3 s4) with | false => rfl | true => rw [e2] at h; cases h⟩
  · cases h
theorem crossT_of {a b c d : Nat × Nat} (h : crossT a b c d = true) : ∃ s1 s2 s3 s4, crossS a b c d = some (s1, s2, s3, s4) ∧ (differ s1 s2 && differ s3 s4) = true := by
  unfold crossT at h
  split at h
  · rename_i s1 s2 s3 s4 e
    exact ⟨s1, s2, s3, s4, e, h⟩
  · cases h
theorem sq_cross : crossB (sqF 0) (sqF 1) (sqF 1) (sqF 2) = true ∧ crossB (sqF 0) (sqF 1) (sqF 2) (sqF 3) = true ∧ crossB (sqF 1) (sqF 2) (sqF 2) (sqF 3) = true := by decide +kernel
theorem do_cross : crossT (3212836864, 0) (1065353216, 0) (0, 3212836864) (0, 1065353216) = true := by decide +kernel
theorem no_cross : crossB (0, 0) (1065353216, 0) (1073741824, 0) (1077936128, 0) = true := by decide +kernel
theorem sq_all : ∀ k i, k + 1 < i + 1 → i + 1 < 4 → ∃ s1 s2 s3 s4, crossS (sqF k) (sqF (k + 1)) (sqF i) (sqF (i + 1)) = some (s1, s2, s3, s4) ∧ (differ s1 s2 && differ s3 s4) = false := fun k i h1 h2 => by
  rcases (by omega : (k = 0 ∧ i = 1) ∨ (k = 0 ∧ i = 2) ∨ (k = 1 ∧ i = 2)) with ⟨rfl, rfl⟩ | ⟨rfl, rfl⟩ | ⟨rfl, rfl⟩
  · exact crossB_of sq_cross.1
  · exact crossB_of sq_cross.2.1
  · exact crossB_of sq_cross.2.2
theorem Crossings_const (w : World) (A : Option Addr) (hA : Rd w w.heap.size 1 A 4 ((List.range 4).map (fun i => cxv (sqF i)))) : Calls Try.prog 25 #[.slice A 4 4] w fun e w' => e = .returned (.tuple #[.int .i64 0, .bool true]) ∧ Below w.heap.size w w' := CrossingsOf_ok A 4 4 w (by omega) (fun i _ => sqF_cb i) sq_all hA
theorem do_const (w : World) : Calls Try.prog 26 #[.complex .f32 3212836864 0, .complex .f32 1065353216 0, .complex .f32 0 3212836864, .complex .f32 0 1065353216] w fun e w' => e = .returned (.bool true) ∧ Below w.heap.size w w' := by
  obtain ⟨s1, s2, s3, s4, h, hd⟩ := crossT_of do_cross
  have := DoLinesCross_ok (cb_of (by simp) (by simp)) (cb_of (by simp) (by simp)) (cb_of (by simp) (by simp)) (cb_of (by simp) (by simp)) h w
  rwa [hd] at this
theorem no_const (w : World) : Calls Try.prog 26 #[.complex .f32 0 0, .complex .f32 1065353216 0, .complex .f32 1073741824 0, .complex .f32 1077936128 0] w fun e w' => e = .returned (.bool false) ∧ Below w.heap.size w w' := by
  obtain ⟨s1, s2, s3, s4, h, hd⟩ := crossB_of no_cross
  have := DoLinesCross_ok (cb_of (by simp) (by simp)) (cb_of (by simp) (by simp)) (cb_of (by simp) (by simp)) (cb_of (by simp) (by simp)) h w
  rwa [hd] at this
end Go.Proofs.Ytkldgcgijkfpaaa

/- Plain law with the walks' contracts: the box that a map leads the middle of a box to; what maps make of sets of boxes. Conditions: sides of 1 to 8. -/
import Derived.Test.YtbpgbplepebcjaaBa
import Derived.Test.YtbpgbplepebcjaaMt
namespace Go.Proofs.Ytbpgbplepebcjaa
open Go.RowKit
open Num Quick

/-- What a map makes of a small number. -/
theorem maps_num {N : Nat} {x : Sm} (hx : x.ok N) {u v : Nat} (hu : Fl .f32 u) (hv : Fl .f32 v) (hvl : v < 4294967296) (iu : InR (Num.fv .f32 u) 1) (iv : InR (Num.fv .f32 v) 1) :
    ∃ s t, (∀ w : World, Calls Try.prog 45 #[smallV x.a x.b x.c x.d x.fl x.s, .complex .f32 u v] w fun e w' => e = .returned (.complex .f32 s t) ∧ Below w.heap.size w w') ∧ Fl .f32 s ∧ Fl .f32 t ∧ InR (Num.fv .f32 s) 10 ∧ InR (Num.fv .f32 t) 10 := by
  have hf := flipN_num x.fl hv hvl
  obtain ⟨V, eV⟩ : ∃ V, (if x.fl then -Num.fv .f32 v else Num.fv .f32 v) = V := ⟨_, rfl⟩
  rw [eV] at hf
  have iV : InR V 1 := by
    rw [← eV]
    unfold InR at *
    split <;> grind
  have ha := half_of hx.a
  have hb := half_of hx.b
  have hc := one_of hx.c
  have hd := one_of hx.d
  obtain ⟨p, q, M, m1, m2⟩ := mul_num hx.a.fin hx.b.fin hu hf.1 (in_mono ha (by decide +kernel)) (in_mono hb (by decide +kernel)) (in_mono iu (by decide +kernel)) (by rw [hf.2.1]; exact in_mono iV (by decide +kernel))
  rw [hf.2.1] at m1 m2
  have k1 := prod_in ha iu (by decide +kernel)
  have k2 := prod_in hb iV (by decide +kernel)
  have k3 := prod_in ha iV (by decide +kernel)
  have k4 := prod_in hb iu (by decide +kernel)
  have e3 : (1 : Rat) / 2 * 1 = 1 / 2 := by decide +kernel
  rw [e3] at k1 k2 k3 k4
  unfold InR at k1 k2 k3 k4 hc hd iu iv
  have n1 := near8 m1 (by unfold InR; grind)
  have n2 := near8 m2 (by unfold InR; grind)
  have t16 : (16 : Rat) ≤ top := by decide +kernel
  obtain ⟨s, t, A, a1, a2⟩ := add_num m1.fin m2.fin hx.c.fin hx.d.fin (by unfold InR; grind) (by unfold InR; grind)
  have n3 := near16 a1 (by unfold InR; grind)
  have n4 := near16 a2 (by unfold InR; grind)
  refine ⟨s, t, maps_w x.fl M A, a1.fin, a2.fin, ?_, ?_⟩
  · unfold InR; constructor <;> grind
  · unfold InR; constructor <;> grind
/-- The middle's word. -/
def BM (side x m : Nat) : Prop := (∀ w : World, Calls Try.prog 96 #[.int .i64 (x : Int), .int .i64 (side : Int)] w fun e w' => e = .returned (.float .f32 m) ∧ w' = w) ∧ Fl .f32 m ∧ m < 4294967296 ∧ InR (Num.fv .f32 m) 1
open Classical in
noncomputable def bmOf (side x : Nat) : Nat := if h : ∃ m, BM side x m then Classical.choose h else 0
theorem bmOf_spec {side x : Nat} (h8 : side ≤ 8) (hx : x < side) : BM side x (bmOf side x) := by
  have h : ∃ m, BM side x m := by
    obtain ⟨m, a1, a2, a3, a4⟩ := boxMiddle_num x side hx h8
    exact ⟨m, a1, a2, a3, a4⟩
  unfold bmOf
  rw [dif_pos h]
  exact Classical.choose_spec h
/-- The words of a box's middle. -/
noncomputable def midOf (side i : Nat) : Nat × Nat := (bmOf side (i % side), bmOf side (i / side))
/-- What the walk meets behind the middle. -/
structure Hitting (x : Sm) (side i : Nat) (t : Option Nat) (u v X Y : Nat) (p q : Bool) : Prop where
  maps : ∀ w : World, Calls Try.prog 45 #[smallV x.a x.b x.c x.d x.fl x.s, .complex .f32 (midOf side i).1 (midOf side i).2] w fun e w' => e = .returned (.complex .f32 u v) ∧ Below w.heap.size w w'
  bx : ∀ w : World, Calls Try.prog 97 #[.float .f32 u, .int .i64 (side : Int)] w fun e w' => e = .returned (.tuple #[.int .i64 (X : Int), .bool p]) ∧ w' = w
  by_ : ∀ w : World, Calls Try.prog 97 #[.float .f32 v, .int .i64 (side : Int)] w fun e w' => e = .returned (.tuple #[.int .i64 (Y : Int), .bool q]) ∧ w' = w
  hX : X < side
  hY : Y < side
  ht : t = (if p && q then some (Y * side + X) else none)
theorem hit_ex {N : Nat} {x : Sm} (hx : x.ok N) {side i : Nat} (h1 : 1 ≤ side) (h8 : side ≤ 8) (hi : i < side * side) : ∃ t u v X Y p q, Hitting x side i t u v X Y p q := by
  obtain ⟨_, m3, _, m6⟩ := bmOf_spec (x := i % side) h8 (Nat.mod_lt _ (by omega))
  obtain ⟨_, m4, m5, m7⟩ := bmOf_spec (x := i / side) h8 ((Nat.div_lt_iff_lt_mul (by omega)).2 hi)
  obtain ⟨u, v, M, k1, k2, k3, k4⟩ := maps_num hx m3 m4 m5 m6 m7
  obtain ⟨X, p, B1, hX⟩ := boxOf_num side h1 h8 k1 k3
  obtain ⟨Y, q, B2, hY⟩ := boxOf_num side h1 h8 k2 k4
  exact ⟨_, u, v, X, Y, p, q, M, B1, B2, hX, hY, rfl⟩
open Classical in
/-- The box that map x leads box i to. -/
noncomputable def hitOf (x : Sm) (side i : Nat) : Option Nat := if h : ∃ t u v X Y p q, Hitting x side i t u v X Y p q then Classical.choose h else none
theorem hitOf_hit {N : Nat} {x : Sm} (hx : x.ok N) {side i : Nat} (h1 : 1 ≤ side) (h8 : side ≤ 8) (hi : i < side * side) : ∃ u v X Y p q, Hitting x side i (hitOf x side i) u v X Y p q := by
  have h := hit_ex hx h1 h8 hi
  unfold hitOf
  rw [dif_pos h]
  exact Classical.choose_spec h
/-- The set of boxes that maps lead a set to. -/
def Img (L : List Sm) (side : Nat) (M O : List Bool) : Prop := O.length = side * side ∧ ∀ j, j < side * side → (O.getD j false = true ↔ ∃ i x, i < side * side ∧ x ∈ L ∧ M.getD i false = true ∧ hitOf x side i = some j)
theorem list_ext {n : Nat} {A B : List Bool} (hA : A.length = n) (hB : B.length = n) (h : ∀ j, j < n → (A.getD j false = true ↔ B.getD j false = true)) : A = B := by
  apply List.ext_getElem (by omega)
  intro j h1 h2
  have := h j (by omega)
  rw [List.getD_eq_getElem?_getD, List.getD_eq_getElem?_getD, List.getElem?_eq_getElem h1, List.getElem?_eq_getElem h2] at this
  simp only [Option.getD_some] at this
  exact Bool.eq_iff_iff.2 this
theorem Img.uniq {L : List Sm} {side : Nat} {M O O' : List Bool} (h : Img L side M O) (h' : Img L side M O') : O = O' :=
  list_ext h.1 h'.1 fun j hj => (h.2 j hj).trans (h'.2 j hj).symm
/-- One set lies in another one. -/
def Sub (n : Nat) (A B : List Bool) : Prop := ∀ j, j < n → A.getD j false = true → B.getD j false = true
theorem Img.mono {L : List Sm} {side : Nat} {M M' O O' : List Bool} (h : Img L side M O) (h' : Img L side M' O') (hs : Sub (side * side) M M') : Sub (side * side) O O' := by
  intro j hj ho
  obtain ⟨i, x, h1, h2, h3, h4⟩ := (h.2 j hj).1 ho
  exact (h'.2 j hj).2 ⟨i, x, h1, h2, hs i h1 h3, h4⟩
open Classical in
noncomputable def imgOf (L : List Sm) (side : Nat) (M : List Bool) : List Bool := (List.range (side * side)).map fun j => decide (∃ i x, i < side * side ∧ x ∈ L ∧ M.getD i false = true ∧ hitOf x side i = some j)
theorem imgOf_img (L : List Sm) (side : Nat) (M : List Bool) : Img L side M (imgOf L side M) := by
  refine ⟨by unfold imgOf; simp, fun j hj => ?_⟩
  unfold imgOf
  rw [List.getD_eq_getElem?_getD, List.getElem?_map, List.getElem?_range hj]
  simp
/-- Steps from the full set. -/
noncomputable def setAt (L : List Sm) (side : Nat) : Nat → List Bool
  | 0 => List.replicate (side * side) true
  | k + 1 => imgOf L side (setAt L side k)
theorem setAt_length (L : List Sm) (side : Nat) : ∀ k, (setAt L side k).length = side * side
  | 0 => by simp [setAt]
  | k + 1 => (imgOf_img L side _).1
theorem setAt_falls (L : List Sm) (side : Nat) : ∀ k, Sub (side * side) (setAt L side (k + 1)) (setAt L side k)
  | 0 => fun j hj _ => by
    show (List.replicate (side * side) true).getD j false = true
    rw [List.getD_eq_getElem?_getD, List.getElem?_replicate, if_pos hj]
    rfl
  | k + 1 => (imgOf_img L side _).mono (imgOf_img L side _) (setAt_falls L side k)
end Go.Proofs.Ytbpgbplepebcjaa

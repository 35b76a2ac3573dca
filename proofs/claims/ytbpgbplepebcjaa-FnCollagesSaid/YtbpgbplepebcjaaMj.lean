/- Walks: what a small map does not move. Conditions: parts of middling size. -/
import Derived.Test.YtbpgbplepebcjaaMh
namespace Go.Proofs.Ytbpgbplepebcjaa
open Go.RowKit
open Num Quick

set_option maxRecDepth 100000 in
set_option maxHeartbeats 2000000 in
theorem rest_flip {a b c d s x y p q r t o u v : Nat} (h : OkSmall a b c d s)
    (M : ∀ w : World, Calls Try.prog 48 #[.complex .f32 a b, .complex .f32 c (ng32 d)] w fun e w' => e = .returned (.complex .f32 x y) ∧ w' = w)
    (A : ∀ w : World, Calls Try.prog 50 #[.complex .f32 c d, .complex .f32 x y] w fun e w' => e = .returned (.complex .f32 p q) ∧ w' = w)
    (PO : ∀ w : World, Calls Try.prog 51 #[.complex .f32 a b] w fun e w' => e = .returned (.float .f32 r) ∧ w' = w)
    (ht : floatBits .sub .f32 1065353216 r = some t) (ho : floatBits .quo .f32 1065353216 t = some o)
    (SC : ∀ w : World, Calls Try.prog 49 #[.complex .f32 p q, .float .f32 o] w fun e w' => e = .returned (.complex .f32 u v) ∧ w' = w) (hu : Fl .f32 u) (hv : Fl .f32 v) (w : World) :
    Calls Try.prog 13 #[smallV a b c d true s] w fun e w' => e = .returned (.tuple #[.complex .f32 u v, .bool true]) ∧ Below w.heap.size w w' := by
  obtain ⟨v0, ev⟩ : ∃ v0, v0 = w.alloc (.cells (smallC a b c d true s) 29) := ⟨_, rfl⟩
  have B0 : Hid (Blk v0 w.heap.size 29 (smallC a b c d true s)) := by rw [ev]; exact Blk.new _ _ _
  have G0 : Hid (Below w.heap.size w v0) := by rw [ev]; exact below_new0 _ _
  have EV := Lib.hid ev
  have V := Lib.hid (fun w => valid_num true h w)
  have I := Lib.hid (fun w => ifComplex_num hu hv w)
  have CJ := Lib.hid (fun w => conj_w w c d)
  have M := Lib.hid M
  have A := Lib.hid A
  have PO := Lib.hid PO
  have SC := Lib.hid SC
  have k1 := r32 ht
  have k2 := r32 ho
  clear ev h hu hv ht ho
  unfold smallV at *
  unfold smallC at EV B0
  go_enter Try.func13, Try.ntmps13
  go_wp2_with fail
  rw [← EV.out]
  refine (V.out _).mono ?_
  rintro e w1 ⟨rfl, hb1⟩
  have B1 := Lib.hid (B0.out.below hb1 B0.out.lt)
  have G1 := Lib.hid (G0.out.trans (hb1.mono G0.out.size))
  have c0 : w1.cell? ⟨w.heap.size, 0, none⟩ = some (.complex .f32 a b) := B1.out.cell 0
  have c1 : w1.cell? ⟨w.heap.size, 1, none⟩ = some (.complex .f32 c d) := B1.out.cell 1
  have c2 : w1.cell? ⟨w.heap.size, 2, none⟩ = some (.bool true) := B1.out.cell 2
  have c3 : w1.cell? ⟨w.heap.size, 3, none⟩ = some (.float .f32 s) := B1.out.cell 3
  clear B0 G0 hb1
  go_wp2
  go_quiet (first
    | (go_at_call 47; exact Calls.quiet_of_same (CJ.out _))
    | (go_at_call 48; exact Calls.quiet_of_same (M.out _))
    | (go_at_call 50; exact Calls.quiet_of_same (A.out _))
    | (go_at_call 51; exact Calls.quiet_of_same (PO.out _))
    | (go_at_call 49; exact Calls.quiet_of_same (SC.out _))
    | (go_at_call 44; exact Calls.quiet_of_same (I.out _)))
  go_wp2
  go_ret2
  exact ⟨rfl, below_drewN G1.out _⟩
set_option maxRecDepth 100000 in
set_option maxHeartbeats 2000000 in
theorem rest_plain {a b c d s p q u v : Nat} (h : OkSmall a b c d s)
    (SB : ∀ w : World, Calls Try.prog 53 #[.complex .f32 1065353216 0, .complex .f32 a b] w fun e w' => e = .returned (.complex .f32 p q) ∧ w' = w)
    (Q : ∀ w : World, Calls Try.prog 52 #[.complex .f32 c d, .complex .f32 p q] w fun e w' => e = .returned (.complex .f32 u v) ∧ w' = w) (hu : Fl .f32 u) (hv : Fl .f32 v) (w : World) :
    Calls Try.prog 13 #[smallV a b c d false s] w fun e w' => e = .returned (.tuple #[.complex .f32 u v, .bool true]) ∧ Below w.heap.size w w' := by
  obtain ⟨v0, ev⟩ : ∃ v0, v0 = w.alloc (.cells (smallC a b c d false s) 29) := ⟨_, rfl⟩
  have B0 : Hid (Blk v0 w.heap.size 29 (smallC a b c d false s)) := by rw [ev]; exact Blk.new _ _ _
  have G0 : Hid (Below w.heap.size w v0) := by rw [ev]; exact below_new0 _ _
  have EV := Lib.hid ev
  have V := Lib.hid (fun w => valid_num false h w)
  have I := Lib.hid (fun w => ifComplex_num hu hv w)
  have SB := Lib.hid SB
  have Q := Lib.hid Q
  clear ev h hu hv
  unfold smallV at *
  unfold smallC at EV B0
  go_enter Try.func13, Try.ntmps13
  go_wp2_with fail
  rw [← EV.out]
  refine (V.out _).mono ?_
  rintro e w1 ⟨rfl, hb1⟩
  have B1 := Lib.hid (B0.out.below hb1 B0.out.lt)
  have G1 := Lib.hid (G0.out.trans (hb1.mono G0.out.size))
  have c0 : w1.cell? ⟨w.heap.size, 0, none⟩ = some (.complex .f32 a b) := B1.out.cell 0
  have c1 : w1.cell? ⟨w.heap.size, 1, none⟩ = some (.complex .f32 c d) := B1.out.cell 1
  have c2 : w1.cell? ⟨w.heap.size, 2, none⟩ = some (.bool false) := B1.out.cell 2
  have c3 : w1.cell? ⟨w.heap.size, 3, none⟩ = some (.float .f32 s) := B1.out.cell 3
  clear B0 G0 hb1
  go_wp2
  go_quiet (first
    | (go_at_call 53; exact Calls.quiet_of_same (SB.out _))
    | (go_at_call 52; exact Calls.quiet_of_same (Q.out _))
    | (go_at_call 44; exact Calls.quiet_of_same (I.out _)))
  go_wp2
  go_ret2
  exact ⟨rfl, below_drewN G1.out _⟩
end Go.Proofs.Ytbpgbplepebcjaa

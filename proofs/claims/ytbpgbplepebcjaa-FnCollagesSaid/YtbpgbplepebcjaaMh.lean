/- Walks: a number mapped forwards and backwards by a valid small map; two maps joined. Conditions: parts of middling size. -/
import Derived.Test.YtbpgbplepebcjaaMg
import Derived.Deep.RegionWith
import Derived.Deep.RegionHeld3
namespace Go.Proofs.Ytbpgbplepebcjaa
open Go.RowKit
open Num Quick

/-- The cells of a small map. -/
def smallC (a b c d : Nat) (fl : Bool) (s : Nat) : Array Value := #[.complex .f32 a b, .complex .f32 c d, .bool fl, .float .f32 s]
set_option maxHeartbeats 1000000 in
theorem mapSmall_w {a b c d s zr zi u v : Nat} (fl : Bool) (h : OkSmall a b c d s) (z1 : Fl .f32 zr) (z2 : Fl .f32 zi) (i1 : InR (fv .f32 zr) 1000) (i2 : InR (fv .f32 zi) 1000)
    (M : ∀ w : World, Calls Try.prog 45 #[smallV a b c d fl s, .complex .f32 zr zi] w fun e w' => e = .returned (.complex .f32 u v) ∧ Below w.heap.size w w') (hu : Fl .f32 u) (hv : Fl .f32 v) (w : World) :
    Calls Try.prog 10 #[smallV a b c d fl s, .complex .f32 zr zi] w fun e w' => e = .returned (.tuple #[.complex .f32 u v, .bool true]) ∧ Below w.heap.size w w' := by
  obtain ⟨v0, ev⟩ : ∃ v0, v0 = w.alloc (.cells (smallC a b c d fl s) 29) := ⟨_, rfl⟩
  have B0 : Hid (Blk v0 w.heap.size 29 (smallC a b c d fl s)) := by rw [ev]; exact Blk.new _ _ _
  have G0 : Hid (Below w.heap.size w v0) := by rw [ev]; exact below_new0 _ _
  have EV := Lib.hid ev
  have V := Lib.hid (fun w => valid_num fl h w)
  have S := Lib.hid (fun w => isSmall_num z1 z2 i1 i2 w)
  have M := Lib.hid M
  have I := Lib.hid (fun w => ifComplex_num hu hv w)
  clear ev h z1 z2 i1 i2 hu hv
  unfold smallV at *
  unfold smallC at EV B0
  go_enter Try.func10, Try.ntmps10
  go_wp2_with fail
  rw [← EV.out]
  refine (V.out _).mono ?_
  rintro e w1 ⟨rfl, hb1⟩
  have B1 := Lib.hid (B0.out.below hb1 B0.out.lt)
  have G1 := Lib.hid (G0.out.trans (hb1.mono G0.out.size))
  have c0 : w1.cell? ⟨w.heap.size, 0, none⟩ = some (.complex .f32 a b) := B1.out.cell 0
  have c1 : w1.cell? ⟨w.heap.size, 1, none⟩ = some (.complex .f32 c d) := B1.out.cell 1
  have c2 : w1.cell? ⟨w.heap.size, 2, none⟩ = some (.bool fl) := B1.out.cell 2
  have c3 : w1.cell? ⟨w.heap.size, 3, none⟩ = some (.float .f32 s) := B1.out.cell 3
  clear B0 G0 hb1
  go_wp2_with fail
  refine (S.out _).mono ?_
  rintro e w2 ⟨rfl, hw⟩
  obtain rfl := hw.symm
  go_wp2_with fail
  refine (M.out _).mono ?_
  rintro e w3 ⟨rfl, hb3⟩
  have G3 := Lib.hid (G1.out.trans (hb3.mono G1.out.size))
  clear G1 hb3 c0 c1 c2 c3 B1
  go_wp2_with fail
  refine (I.out _).mono ?_
  rintro e w4 ⟨rfl, hw⟩
  obtain rfl := hw.symm
  go_wp2
  go_ret2
  exact ⟨rfl, G3.out⟩
set_option maxHeartbeats 1000000 in
theorem backSmall_w {a b c d s zr zi u v : Nat} (fl : Bool) (h : OkSmall a b c d s) (ha : 0 < Num.fv .f32 a) (z1 : Fl .f32 zr) (z2 : Fl .f32 zi) (i1 : InR (fv .f32 zr) 1000) (i2 : InR (fv .f32 zi) 1000)
    (M : ∀ w : World, Calls Try.prog 46 #[smallV a b c d fl s, .complex .f32 zr zi] w fun e w' => e = .returned (.complex .f32 u v) ∧ Below w.heap.size w w') (hu : Fl .f32 u) (hv : Fl .f32 v) (w : World) :
    Calls Try.prog 11 #[smallV a b c d fl s, .complex .f32 zr zi] w fun e w' => e = .returned (.tuple #[.complex .f32 u v, .bool true]) ∧ Below w.heap.size w w' := by
  obtain ⟨v0, ev⟩ : ∃ v0, v0 = w.alloc (.cells (smallC a b c d fl s) 29) := ⟨_, rfl⟩
  have B0 : Hid (Blk v0 w.heap.size 29 (smallC a b c d fl s)) := by rw [ev]; exact Blk.new _ _ _
  have G0 : Hid (Below w.heap.size w v0) := by rw [ev]; exact below_new0 _ _
  have EV := Lib.hid ev
  have V := Lib.hid (fun w => valid_num fl h w)
  have S := Lib.hid (fun w => isSmall_num z1 z2 i1 i2 w)
  have M := Lib.hid M
  have I := Lib.hid (fun w => ifComplex_num hu hv w)
  have hne : (FloatKind.f32.format.order a 0 == some .eq) = false := by
    rw [cmp_gt' h.fa c0.1 (by rw [c0.2]; exact ha)]; decide
  clear ev h ha z1 z2 i1 i2 hu hv
  unfold smallV at *
  unfold smallC at EV B0
  go_enter Try.func11, Try.ntmps11
  go_wp2_with fail
  rw [← EV.out]
  refine (V.out _).mono ?_
  rintro e w1 ⟨rfl, hb1⟩
  have B1 := Lib.hid (B0.out.below hb1 B0.out.lt)
  have G1 := Lib.hid (G0.out.trans (hb1.mono G0.out.size))
  have c0 : w1.cell? ⟨w.heap.size, 0, none⟩ = some (.complex .f32 a b) := B1.out.cell 0
  have c1 : w1.cell? ⟨w.heap.size, 1, none⟩ = some (.complex .f32 c d) := B1.out.cell 1
  have c2 : w1.cell? ⟨w.heap.size, 2, none⟩ = some (.bool fl) := B1.out.cell 2
  have c3 : w1.cell? ⟨w.heap.size, 3, none⟩ = some (.float .f32 s) := B1.out.cell 3
  clear B0 G0 hb1
  go_wp2_with fail
  refine (S.out _).mono ?_
  rintro e w2 ⟨rfl, hw⟩
  obtain rfl := hw.symm
  go_wp2_with fail
  refine (M.out _).mono ?_
  rintro e w3 ⟨rfl, hb3⟩
  have G3 := Lib.hid (G1.out.trans (hb3.mono G1.out.size))
  clear G1 hb3 c0 c1 c2 c3 B1
  go_wp2_with fail
  refine (I.out _).mono ?_
  rintro e w4 ⟨rfl, hw⟩
  obtain rfl := hw.symm
  go_wp2
  go_ret2
  exact ⟨rfl, G3.out⟩
end Go.Proofs.Ytbpgbplepebcjaa

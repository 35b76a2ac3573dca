/- Walks: the new desk, of the program and of the reference. -/
import Derived.Test.YthgdikdcbkhgjaaFe
import Derived.Test.YthgdikdcbkhgjaaEq
import Derived.Test.YthgdikdcbkhgjaaMk
import Derived.Test.YthgdikdcbkhgjaaBlk
namespace Go.Proofs.Ythgdikdcbkhgjaa
open Go.RowKit

def sFX : ByteArray := ⟨#[70, 88]⟩
def rulesXs : List Value := [.string ⟨#[88]⟩, .string ⟨#[88, 43, 89, 70, 43]⟩, .string ⟨#[89]⟩, .string ⟨#[45, 70, 88, 45, 89]⟩]
def ptsXs : List (Nat × Nat) := [(0, 0), (1065353216, 0)]

/-- What DragonGrammar gives. -/
def IsDragon (w : World) (e : Ending) (w' : World) : Prop :=
  ∃ A, e = .returned (.agg #[.string sFX, .slice A 2 2]) ∧ w'.ownsRow w.heap.size 62 2 (.slice A 2 2) 2 rulesXs ∧ Below w.heap.size w w'

theorem dragon_mk (w : World) (o : Obj) : IsDragon w (.returned (.agg #[.string sFX, .slice (some ⟨w.heap.size + 1, 0, none⟩) 2 2])) ((w.alloc o).alloc (.cells rulesXs.toArray 62)) := by
  refine ⟨_, rfl, ?_, ((Below.refl _ _).alloc (Nat.le_refl _) _).alloc (by simp) _⟩
  have h := World.ownsRow_lit (base := w.heap.size) (e := 62) (size := 2) (w.alloc o) rulesXs.toArray 2 (by simp) (by unfold maxLen; omega) rfl
  simpa using h

set_option maxRecDepth 100000 in
theorem specDragon (w : World) : Calls Try.prog 15 #[] w (IsDragon w) := by
  go_enter Try.func15, Try.ntmps15
  go_wp2
  go_returns
  exact dragon_mk w _
set_option maxRecDepth 100000 in
theorem implDragon (w : World) : Calls Try.prog 16 #[] w (IsDragon w) := by
  go_enter Try.func16, Try.ntmps16
  go_wp2
  go_returns
  exact dragon_mk w _

/-- What NewDesk gives. -/
def deskV (A A' : Option Addr) : Value :=
  .agg #[.int .i64 0, .complex .f32 3212836864 0, .complex .f32 0 0, .float .f32 1082130432, .int .i64 4, .int .i64 4, .string sFX, .slice A 2 2, .slice A' 2 2]
def IsDesk (w : World) (e : Ending) (w' : World) : Prop :=
  ∃ A A', e = .returned (deskV A A') ∧ w'.ownsRow w.heap.size 62 2 (.slice A 2 2) 2 rulesXs ∧ w'.ownsRow w.heap.size 22 1 (.slice A' 2 2) 2 (ptsXs.map cv) ∧ Below w.heap.size w w'


def deskZ : Array Value := #[.int .i64 0, .complex .f32 0 0, .complex .f32 0 0, .float .f32 0, .int .i64 0, .int .i64 0, .string ⟨#[]⟩, .slice none 0 0, .slice none 0 0]
def deskC (A A' : Option Addr) : Array Value :=
  #[.int .i64 0, .complex .f32 3212836864 0, .complex .f32 0 0, .float .f32 1082130432, .int .i64 4, .int .i64 4, .string sFX, .slice A 2 2, .slice A' 2 2]

set_option maxRecDepth 100000 in
set_option maxHeartbeats 400000 in
theorem implDesk (w : World) : Calls Try.prog 6 #[] w (IsDesk w) := by
  go_enter Try.func6, Try.ntmps6
  go_wp2_with fail
  refine (implDragon _).mono ?_
  rintro e w1 ⟨A, rfl, ho, hb⟩
  have hsz := hb.size
  simp only [World.size_alloc] at hsz
  have hbk : Blk w1 w.heap.size 33 deskZ := (Blk.new w _ _).below hb (by simp)
  go_wp2_with (refine wpList_store_blk rfl _ _ _ rfl w.heap.size 0 rfl _ rfl [.int .i64 0, .complex .f32 3212836864 0, .complex .f32 0 0, .float .f32 1082130432, .int .i64 4, .int .i64 4, .string sFX, .slice A 2 2, .slice (some ⟨w1.heap.size, 0, none⟩) 2 2] rfl 33 deskZ (deskC A (some ⟨w1.heap.size, 0, none⟩)) (hbk.alloc _) (by kernel_rfl) (by simp [deskZ]) (by simp [Value.oneCell']) rfl ?_; intro w2 hk2 hg2)
  refine bodyPost_ret (results_cell_row rfl _ w2 w.heap.size 33 _ (0, 0) _ rfl hk2 Try.underlying33 rfl (by kernel_rfl)) rfl ?_
  have ho1 := ho.alloc (.cells #[.complex .f32 0 0, .complex .f32 1065353216 0] 22)
  have ho2 := own_grown ho1 hg2 (by simp)
  have hp : Blk w2 w1.heap.size 22 #[.complex .f32 0 0, .complex .f32 1065353216 0] := (Blk.new w1 _ _).grown hg2 (by simp; omega)
  exact ⟨A, some ⟨w1.heap.size, 0, none⟩, rfl, own_base ho2 (by simp), hp.own (by omega) (by simp) (by unfold maxLen; omega),
    (((((Below.refl _ _).alloc (Nat.le_refl _) _).trans (hb.mono (by simp))).alloc (by omega) _).grown hg2 (by simp; omega) (by simp))⟩

def deskC1 : Array Value := #[.int .i64 0, .complex .f32 3212836864 0, .complex .f32 0 0, .float .f32 0, .int .i64 0, .int .i64 0, .string ⟨#[]⟩, .slice none 0 0, .slice none 0 0]
def deskC2 : Array Value := #[.int .i64 0, .complex .f32 3212836864 0, .complex .f32 0 0, .float .f32 1082130432, .int .i64 4, .int .i64 4, .string ⟨#[]⟩, .slice none 0 0, .slice none 0 0]
def deskC3 (A : Option Addr) : Array Value := #[.int .i64 0, .complex .f32 3212836864 0, .complex .f32 0 0, .float .f32 1082130432, .int .i64 4, .int .i64 4, .string sFX, .slice A 2 2, .slice none 0 0]

set_option maxRecDepth 100000 in
set_option maxHeartbeats 400000 in
theorem specDesk (w : World) : Calls Try.prog 5 #[] w (IsDesk w) := by
  go_enter Try.func5, Try.ntmps5
  go_wp2_with (first
    | (refine wpList_store_blk rfl _ _ _ rfl (w.heap.size + 1) 0 rfl _ rfl [.int .i64 0, .complex .f32 3212836864 0, .complex .f32 0 0, .float .f32 0, .int .i64 0, .int .i64 0, .string ⟨#[]⟩, .slice none 0 0, .slice none 0 0] rfl 33 deskZ deskC1
        (Blk.new2 _ _ _ _) (by kernel_rfl) (by simp [deskZ]) (by simp [Value.oneCell']) rfl ?_; intro w1 hk1 hg1
       have hz1 : Blk w1 w.heap.size 33 deskZ := ((Blk.new w _ _).alloc _).grown hg1 (by simp))
    | (refine wpList_store_blk rfl _ _ _ rfl (w.heap.size + 1) 2 rfl _ rfl [.complex .f32 0 0, .float .f32 1082130432, .int .i64 4, .int .i64 4] rfl 33 deskC1 deskC2
        hk1 (by kernel_rfl) (by simp [deskC1]) (by simp [Value.oneCell']) rfl ?_; intro w2 hk2 hg2
       have hz2 := hz1.grown hg2 (by simp))
    | (go_at_call 15; refine (specDragon _).mono ?_; rintro e w3 ⟨A, rfl, ho, hb⟩
       have hk3 : Blk w3 (w.heap.size + 1) 33 deskC2 := hk2.below hb hk2.lt
       have hz3 := hz2.below hb hz2.lt)
    | (refine wpList_store_blk rfl _ _ _ rfl (w.heap.size + 1) 6 rfl _ rfl [.string sFX, .slice A 2 2] rfl 33 deskC2 (deskC3 A)
        hk3 (by kernel_rfl) (by simp [deskC2]) (by simp [Value.oneCell']) rfl ?_; intro w4 hk4 hg4
       have hz4 := hz3.grown hg4 (by simp))
    | (refine wpList_store_blk rfl _ _ _ rfl (w.heap.size + 1) 8 rfl _ rfl [.slice (some ⟨w4.heap.size, 0, none⟩) 2 2] rfl 33 (deskC3 A) (deskC A (some ⟨w4.heap.size, 0, none⟩))
        (hk4.alloc _) (by kernel_rfl) (by simp [deskC3]) (by simp [Value.oneCell']) rfl ?_; intro w5 hk5 hg5
       have hz5 := (hz4.alloc (.cells #[.complex .f32 0 0, .complex .f32 1065353216 0] 22)).grown hg5 (by simp))
    | (refine wpList_load_blk rfl _ _ rfl (w.heap.size + 1) 0 rfl 33 (deskC A (some ⟨w4.heap.size, 0, none⟩)) hk5 (deskC A (some ⟨w4.heap.size, 0, none⟩)).toList rfl _ Try.underlying33 rfl (by kernel_rfl) ?_)
    | (refine wpList_store_blk rfl _ _ _ rfl w.heap.size 0 rfl _ rfl (deskC A (some ⟨w4.heap.size, 0, none⟩)).toList rfl 33 deskZ (deskC A (some ⟨w4.heap.size, 0, none⟩))
        hz5 (by kernel_rfl) (by simp [deskZ, deskC]) (by simp [deskC, Value.oneCell']) rfl ?_; intro w6 hk6 hg6)
    | fail)
  refine bodyPost_ret (results_cell_row rfl _ w6 w.heap.size 33 _ (0, 0) _ rfl hk6 Try.underlying33 rfl (by kernel_rfl)) rfl ?_
  have s1 := hg1.size
  have s2 := hg2.size
  have s3 := hb.size
  have s4 := hg4.size
  have s5 := hg5.size
  simp only [World.size_alloc] at s1 s5
  have ho4 := own_grown ho hg4 (by omega)
  have ho5 := own_grown (ho4.alloc (.cells #[.complex .f32 0 0, .complex .f32 1065353216 0] 22)) hg5 (by omega)
  have ho6 := own_grown ho5 hg6 (by omega)
  have hp : Blk w6 w4.heap.size 22 #[.complex .f32 0 0, .complex .f32 1065353216 0] := ((Blk.new w4 _ _).grown hg5 (by simp; omega)).grown hg6 (by simp; omega)
  refine ⟨A, some ⟨w4.heap.size, 0, none⟩, rfl, own_base ho6 (by omega), hp.own (by omega) (by simp) (by unfold maxLen; omega), ?_⟩
  have b1 : Below w.heap.size w w1 := (((Below.refl _ _).alloc (Nat.le_refl _) _).alloc (by simp) _).grown hg1 (by simp; omega) (by simp)
  have b3 := (b1.grown hg2 (by omega) (by simp)).trans (hb.mono (by omega))
  exact (((b3.grown hg4 (by omega) (by simp)).alloc (by omega) _).grown hg5 (by simp; omega) (by simp)).grown hg6 (by omega) (by simp)
end Go.Proofs.Ythgdikdcbkhgjaa

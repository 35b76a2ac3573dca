/- Walk: DropOn by the reference. Conditions: as each says. -/
import Derived.Test.YtefbjiipkoofkaaHm
import Derived.StillTailTactics
namespace Go.Proofs.Ytefbjiipkoofkaa
open Go.RowKit

/-- A sheet of its own memory, a number and a truth value. -/
def SrRes (rw rh : Int) (C : List Nat) (x : Int) (ok : Bool) (w : World) (e : Ending) (w' : World) : Prop :=
  ∃ A c, e = .returned (.tuple #[sheetV rw rh A C.length c, .int .i64 x, .bool ok]) ∧ w'.ownsRow w.heap.size 25 1 (.slice A C.length c) C.length (C.map fv) ∧ Below w.heap.size w w'
theorem srRes_no {w w' : World} (hb : Below w.heap.size w w') : SrRes 0 0 [] 0 false w (.returned (.tuple #[.agg #[.int .i64 0, .int .i64 0, .slice none 0 0], .int .i64 0, .bool false])) w' :=
  ⟨none, 0, rfl, World.ownsRow_nil _ _ _ _, hb⟩
/-- What a drop gives. -/
def DrRes (nx : List Nat → Nat → Option Nat) (W H tk lv st a : Nat) (xs : List Nat) (w : World) (e : Ending) (w' : World) : Prop :=
  ∃ Hf m, Run nx tk lv st xs a 0 Hf m ∧ ((Hf.all finW = true ∧ SrRes W H Hf (m : Nat) true w e w') ∨ (Hf.all finW = false ∧ SrRes 0 0 [] 0 false w e w'))
theorem okSheet_len {W H : Nat} {xs : List Nat} (h1 : 1 ≤ W) (h2 : W ≤ 17) (h3 : 1 ≤ H) (h4 : H ≤ 17) (hl : xs.length = W * H) : okSheet (W : Int) (H : Int) xs = xs.all finW := by
  unfold okSheet
  rw [inB_iff.2 ⟨by omega, by omega⟩, inB_iff.2 ⟨by omega, by omega⟩, hl]
  simp
theorem place_lt {W H x y : Nat} (hx : x < W) (hy : y < H) : y * W + x < W * H := by
  have := Nat.mul_le_mul_right W (show y + 1 ≤ H from hy)
  rw [Nat.add_mul, Nat.one_mul, Nat.mul_comm H W] at this
  omega
set_option maxRecDepth 100000 in
set_option maxHeartbeats 4000000 in
theorem specDropOn_ok (W H N x y st tk lv : Nat) (A : Option Addr) (c : Nat) (xs : List Nat) (w : World) (h1 : 1 ≤ W) (h2 : W ≤ 17) (h3 : 1 ≤ H) (h4 : H ≤ 17) (hN : W * H = N) (hl : xs.length = N) (hx : x < W) (hy : y < H) (hst : st ≤ 128) (hr : (okTake tk && okShare lv) = true) (hf : xs.all finW = true)
    (hA : Rd w w.heap.size 1 A N (xs.map fv)) :
    Calls Try.prog 6 #[sheetV (W : Int) (H : Int) A N c, .int .i64 (x : Int), .int .i64 (y : Int), .int .i64 (st : Int), .float .f32 tk, .float .f32 lv] w (DrRes (nxS W H) W H tk lv st (y * W + x) xs w) := by
  have hN289 : N ≤ 289 := by have := Nat.mul_le_mul h2 h4; omega
  have hplt := place_lt hx hy
  have hyW : ((y * W : Nat) : Int) = (y : Int) * (W : Int) := by simp
  have hN1 : 1 ≤ N := by have := Nat.mul_le_mul h1 h3; omega
  obtain ⟨P, hP⟩ : ∃ P, y * W = P := ⟨_, rfl⟩
  rw [hP] at hyW hplt ⊢
  have hmul : (y : Int) * (W : Int) = (P : Int) := hyW.symm
  have hPN : P + x < N := by omega
  obtain ⟨v, ev⟩ : ∃ v, v = (w.alloc (.cells #[.int .i64 (W : Int), .int .i64 (H : Int), .slice A N c] 27)).alloc (.cells #[.int .i64 0, .int .i64 0, .slice none 0 0] 27) := ⟨_, rfl⟩
  have K0 : Blk v w.heap.size 27 #[.int .i64 (W : Int), .int .i64 (H : Int), .slice A N c] := by rw [ev]; exact (Blk.new w _ _).alloc _
  have R0 : Hid (Blk v (w.heap.size + 1) 27 #[.int .i64 0, .int .i64 0, .slice none 0 0]) := by rw [ev]; exact Blk.new2 _ _ _ _
  have V0 : Hid (Below w.heap.size w v) := by rw [ev]; exact ((Below.refl _ _).alloc (Nat.le_refl _) _).alloc (by simp) _
  have A0 : Rd v v.heap.size 1 A N (xs.map fv) := (hA.below V0.out).more V0.out.size
  have IS := l05Is_any (W : Int) (H : Int) A N c w.heap.size v.heap.size xs v (by unfold maxLen; omega) K0 A0
  rw [okSheet_len h1 h2 h3 h4 (by rw [hN]; exact hl), hf] at IS
  have IS0 := Lib.hid IS
  have L1 : Hid (∀ w, Calls Try.prog 16 #[.int .i64 (x : Int), .int .i64 0, .int .i64 ((W : Int) - 1)] w fun e w' => e = .returned (.bool true) ∧ w' = w) := fun w => by
    have := l00In_any (x : Int) 0 ((W : Int) - 1) w
    rwa [inB_iff.2 ⟨by omega, by omega⟩] at this
  have L2 : Hid (∀ w, Calls Try.prog 16 #[.int .i64 (y : Int), .int .i64 0, .int .i64 ((H : Int) - 1)] w fun e w' => e = .returned (.bool true) ∧ w' = w) := fun w => by
    have := l00In_any (y : Int) 0 ((H : Int) - 1) w
    rwa [inB_iff.2 ⟨by omega, by omega⟩] at this
  have L3 : Hid (∀ w, Calls Try.prog 16 #[.int .i64 (st : Int), .int .i64 0, .int .i64 128] w fun e w' => e = .returned (.bool true) ∧ w' = w) := fun w => by
    have := l00In_any (st : Int) 0 128 w
    rwa [inB_iff.2 ⟨by omega, by omega⟩] at this
  have L4 : Hid (∀ w, Calls Try.prog 17 #[.float .f32 tk, .float .f32 lv] w fun e w' => e = .returned (.bool true) ∧ w' = w) := fun w => by
    have := l05Rule_any tk lv w
    rwa [hr] at this
  have KV := Lib.hid K0
  have AV := Lib.hid A0
  have EV := Lib.hid ev
  have HL := Lib.hid hl
  have HN := Lib.hid hN
  have HF := Lib.hid hf
  have hvz : v.heap.size = w.heap.size + 2 := by rw [ev]; simp
  have hgl : w.heap.size < v.heap.size := by omega
  unfold sheetV
  clear ev IS K0 A0 hA hl hr hf hplt hyW hN
  go_enter Try.func6, Try.ntmps6
  go_wp2_with fail
  rw [← EV.out]
  refine IS0.out.mono ?_
  rintro e w1 ⟨rfl, m1, hw1⟩
  have K1 : Hid (Blk w1 w.heap.size 27 #[.int .i64 (W : Int), .int .i64 (H : Int), .slice A N c]) := by rw [hw1]; exact KV.out.drewN _
  have R1 : Hid (Blk w1 (w.heap.size + 1) 27 #[.int .i64 0, .int .i64 0, .slice none 0 0]) := by rw [hw1]; exact R0.out.drewN _
  have V1 : Hid (Below w.heap.size w w1) := by rw [hw1]; exact below_drewN' V0.out _
  have A1 : Hid (Rd w1 w1.heap.size 1 A N (xs.map fv)) := by rw [hw1]; exact AV.out
  have z1 : w1.heap.size = v.heap.size := by rw [hw1]; rfl
  have d0 : w1.cell? ⟨w.heap.size, 0, none⟩ = some (.int .i64 (W : Int)) := K1.out.cell 0
  have d1 : w1.cell? ⟨w.heap.size, 1, none⟩ = some (.int .i64 (H : Int)) := K1.out.cell 1
  clear hw1 IS0 R0 V0 AV KV EV
  go_wp2_with fail
  refine (L1.out _).mono ?_
  rintro e w' ⟨rfl, rfl⟩
  go_wp2_with fail
  refine (L2.out _).mono ?_
  rintro e w' ⟨rfl, rfl⟩
  go_wp2_with fail
  refine (L3.out _).mono ?_
  rintro e w' ⟨rfl, rfl⟩
  go_wp2_with fail
  refine (L4.out _).mono ?_
  rintro e w' ⟨rfl, rfl⟩
  have OW := Lib.hid (l05Own_any (W : Int) (H : Int) N A c w.heap.size xs w' hN1 hN289 HL.out K1.out A1.out)
  unfold SheetOut sheetV at OW
  go_wp2_with fail
  refine OW.out.mono ?_
  rintro e u2 ⟨A2, c2, rfl, ho, hb⟩
  obtain ⟨gr, cap, hv, _, hgr⟩ := ho.form (by omega)
  obtain ⟨rfl, rfl⟩ : A2 = some ⟨gr, 0, none⟩ ∧ c2 = cap := by injection hv with q1 _ q3; exact ⟨q1, q3⟩
  obtain ⟨w3, ew3⟩ : ∃ w3, w3 = u2.alloc (.cells #[.int .i64 (W : Int), .int .i64 (H : Int), .slice (some ⟨gr, 0, none⟩) N c2] 27) := ⟨_, rfl⟩
  have K3 : Hid (Blk w3 u2.heap.size 27 #[.int .i64 (W : Int), .int .i64 (H : Int), .slice (some ⟨gr, 0, none⟩) N c2]) := by rw [ew3]; exact Blk.new _ _ _
  have R3 : Hid (Blk w3 (w.heap.size + 1) 27 #[.int .i64 0, .int .i64 0, .slice none 0 0]) := by rw [ew3]; exact (R1.out.below hb R1.out.lt).alloc _
  have O3 : Hid (w3.ownsRow w'.heap.size 25 1 (.slice (some ⟨gr, 0, none⟩) N c2) N (xs.map fv)) := by rw [ew3]; exact ho.alloc _
  have V3 : Hid (Below w.heap.size w w3) := by rw [ew3]; exact (V1.out.trans (hb.mono V1.out.size)).alloc (Nat.le_trans V1.out.size hb.size) _
  have ku := K1.out.below hb K1.out.lt
  have j0 : u2.cell? ⟨w.heap.size, 0, none⟩ = some (.int .i64 (W : Int)) := ku.cell 0
  have j1 : u2.cell? ⟨w.heap.size, 1, none⟩ = some (.int .i64 (H : Int)) := ku.cell 1
  have hgl2 : w.heap.size < u2.heap.size := ku.lt
  have hne2 : ¬ w.heap.size = u2.heap.size := by omega
  have hbase : w.heap.size ≤ w'.heap.size := V1.out.size
  have E3 := Lib.hid ew3
  have DC : Hid (Calls Try.prog 19 #[.pointer (some ⟨u2.heap.size, 0, none⟩), .int .i64 ((P : Int) + (x : Int)), .int .i64 (st : Int), .float .f32 tk, .float .f32 lv] w3 fun e w'' => ∃ Hf m, e = .returned (.int .i64 ((m : Nat) : Int)) ∧ m ≤ st ∧ Run (nxS W H) tk lv st xs (P + x) 0 Hf m ∧
      w''.ownsRow w'.heap.size 25 1 (.slice (some ⟨gr, 0, none⟩) N c2) N (Hf.map fv) ∧ w3.grownBy w'' (some gr)) := by
    have := l05Drop_any W H gr c2 u2.heap.size w'.heap.size (P + x) st tk lv xs w3 h1 h2 h3 h4 (by rw [HN.out]; exact HL.out) (by rw [HN.out]; exact hPN) hst (by rw [HN.out]; exact K3.out) (by rw [HN.out]; exact O3.out)
    rw [HN.out] at this
    rwa [Int.natCast_add] at this
  clear ho hb ew3 ku hv K1 R1 V1 OW d0 d1 A1
  go_wp2_with fail
  rw [← E3.out]
  refine DC.out.mono ?_
  rintro e w4 ⟨Hf, m, rfl, hm, hrun, ho4, hg4⟩
  have hlf : Hf.length = N := by rw [run_len hrun]; exact HL.out
  have K4 := Lib.hid (K3.out.grown hg4 (own_blk_ne O3.out K3.out (by decide)))
  have R4 := Lib.hid (R3.out.grown hg4 (own_blk_ne O3.out R3.out (by decide)))
  have V4 := Lib.hid (V3.out.grown hg4 V3.out.size (fun k e => by have := (O3.out.lt k e).1; omega))
  have O4 := Lib.hid ho4
  have HRUN := Lib.hid hrun
  have HLF := Lib.hid hlf
  have IS := l05Is_any (W : Int) (H : Int) (some ⟨gr, 0, none⟩) N c2 u2.heap.size w4.heap.size Hf w4 (by unfold maxLen; omega) K4.out (Rd.own ho4)
  rw [okSheet_len h1 h2 h3 h4 (by rw [hlf]; exact HN.out.symm)] at IS
  have IS4 := Lib.hid IS
  clear ho4 hg4 hrun hlf IS DC K3 R3 V3 O3 E3
  cases hfin : Hf.all finW
  · rw [hfin] at IS4
    have HFIN := Lib.hid hfin
    clear hfin
    go_wp2_with fail
    refine IS4.out.mono ?_
    rintro e w5 ⟨rfl, m5, hw5⟩
    have R5 : Hid (Blk w5 (w.heap.size + 1) 27 #[.int .i64 0, .int .i64 0, .slice none 0 0]) := by rw [hw5]; exact R4.out.drewN _
    have V5 : Hid (Below w.heap.size w w5) := by rw [hw5]; exact below_drewN' V4.out _
    clear hw5 R4 V4 K4 O4 IS4
    go_wp2_with (first
      | (refine wpList_store_blk rfl _ _ _ rfl (w.heap.size + 1) 0 rfl _ rfl [.int .i64 0, .int .i64 0, .slice none 0 0] rfl 27 _ #[.int .i64 0, .int .i64 0, .slice none 0 0] R5.out (by kernel_rfl) (by simp) (by simp [Value.oneCell']) rfl ?_; intro w9 k9 g9)
      | fail)
    refine bodyPost_ret (results_row3 rfl _ w9 (w.heap.size + 1) 27 _ _ rfl k9 Try.underlying27 rfl (by kernel_rfl) _ _ rfl rfl) rfl ?_
    exact ⟨Hf, m, HRUN.out, .inr ⟨HFIN.out, srRes_no (V5.out.grown g9 V5.out.size (fun j e => by injection e with e; omega))⟩⟩
  · rw [hfin] at IS4
    have HFIN := Lib.hid hfin
    clear hfin
    go_wp2_with fail
    refine IS4.out.mono ?_
    rintro e w5 ⟨rfl, m5, hw5⟩
    have R5 : Hid (Blk w5 (w.heap.size + 1) 27 #[.int .i64 0, .int .i64 0, .slice none 0 0]) := by rw [hw5]; exact R4.out.drewN _
    have K5 : Hid (Blk w5 u2.heap.size 27 #[.int .i64 (W : Int), .int .i64 (H : Int), .slice (some ⟨gr, 0, none⟩) N c2]) := by rw [hw5]; exact K4.out.drewN _
    have V5 : Hid (Below w.heap.size w w5) := by rw [hw5]; exact below_drewN' V4.out _
    have O5 : Hid (w5.ownsRow w'.heap.size 25 1 (.slice (some ⟨gr, 0, none⟩) N c2) N (Hf.map fv)) := by rw [hw5]; exact O4.out
    clear hw5 R4 V4 K4 O4 IS4
    go_wp2_with (first
      | (refine wpList_load_blk rfl _ _ rfl u2.heap.size 0 rfl 27 _ K5.out [.int .i64 (W : Int), .int .i64 (H : Int), .slice (some ⟨gr, 0, none⟩) N c2] rfl _ Try.underlying27 rfl (by kernel_rfl) ?_)
      | (refine wpList_store_blk rfl _ _ _ rfl (w.heap.size + 1) 0 rfl _ rfl [.int .i64 (W : Int), .int .i64 (H : Int), .slice (some ⟨gr, 0, none⟩) N c2] rfl 27 _ #[.int .i64 (W : Int), .int .i64 (H : Int), .slice (some ⟨gr, 0, none⟩) N c2] R5.out (by kernel_rfl) (by simp) (by simp [Value.oneCell']) rfl ?_; intro w9 k9 g9)
      | fail)
    refine bodyPost_ret (results_row3 rfl _ w9 (w.heap.size + 1) 27 _ _ rfl k9 Try.underlying27 rfl (by kernel_rfl) _ _ rfl rfl) rfl ?_
    refine ⟨Hf, m, HRUN.out, .inl ⟨HFIN.out, some ⟨gr, 0, none⟩, c2, ?_, ?_, V5.out.grown g9 V5.out.size (fun j e => by injection e with e; omega)⟩⟩
    · rw [HLF.out]
      rfl
    · rw [HLF.out]
      exact own_base (own_grown' O5.out g9 (own_blk_ne O5.out R5.out (by decide))) hbase
end Go.Proofs.Ytefbjiipkoofkaa

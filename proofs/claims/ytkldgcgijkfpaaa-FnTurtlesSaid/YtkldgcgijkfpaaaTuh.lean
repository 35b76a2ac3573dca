/- Walks: lines that are moved, turned and fitted. Conditions: the numbers are known. -/
import Derived.Test.YtkldgcgijkfpaaaTug
import Derived.Deep.CutRange
import Derived.BigQuiet
import Derived.Deep.RegionHeld3
namespace Go.Proofs.Ytkldgcgijkfpaaa
open Go.RowKit
open Num Quick
attribute [local go_sem] run_store_fl run_store_cx

set_option maxRecDepth 100000 in
set_option maxHeartbeats 1000000 in
theorem MoveLine_ok {B B' : Rat} (f h : Nat → Nat × Nat) (b1 b2 : Nat) (A : Option Addr) (n c : Nat) (w : World) (hn : n ≤ 64) (hf : ∀ i, i < n → Cb B (f i)) (hh : ∀ i, i < n → Cb B' (h i)) (fb1 : Fl .f32 b1) (fb2 : Fl .f32 b2)
    (hx : ∀ i, i < n → floatBits .add .f32 (f i).1 b1 = some (h i).1) (hy : ∀ i, i < n → floatBits .add .f32 (f i).2 b2 = some (h i).2) (hA : Rd w w.heap.size 1 A n ((List.range n).map (fun i => cxv (f i)))) :
    Calls Try.prog 14 #[.slice A n c, .complex .f32 b1 b2] w fun e w' => ∃ (g c' : Nat), e = .returned (.tuple #[.slice (some ⟨g, 0, none⟩) n c', .bool true]) ∧ w'.ownsRow w.heap.size 37 1 (.slice (some ⟨g, 0, none⟩) n c') n ((List.range n).map (fun i => cxv (h i))) ∧ Below w.heap.size w w' := by
  obtain ⟨v, ev⟩ : ∃ v, v = w.alloc (.cells #[.complex .f32 b1 b2] 37) := ⟨_, rfl⟩
  have V0 : Below w.heap.size w v := by rw [ev]; exact (Below.refl _ _).alloc (Nat.le_refl _) _
  have K0 : Blk v w.heap.size 37 #[.complex .f32 b1 b2] := by rw [ev]; exact Blk.new _ _ _
  have ML := Lib.hid (mapped_ok f h A n c 40 #[.pointer (some ⟨w.heap.size, 0, none⟩)] v hn hf hh (fun args w => by kernel_rfl) (fun i hi w' hb => move_cl (hx i hi) (hy i hi) w' ((K0.below hb K0.lt).cell 0)) ((hA.below V0).more V0.size))
  have FI := Lib.hid (fun w => finiteC_num fb1 fb2 w)
  have EV := Lib.hid ev
  have VH := Lib.hid V0
  have c0 := K0.cell 0
  rw [ev] at c0
  clear ev hf hh hx hy hA V0 K0
  go_enter Try.func14, Try.ntmps14
  go_wp2_with fail
  refine (FI.out _).mono ?_
  rintro e w1 ⟨rfl, hw1⟩
  subst hw1
  go_wp2_with fail
  rw [← EV.out]
  refine ML.out.mono ?_
  rintro e w2 ⟨g, c', rfl, ho, hb⟩
  have HO := Lib.hid (own_base ho VH.out.size)
  have HB := Lib.hid (VH.out.trans (hb.mono VH.out.size))
  clear ho hb ML
  go_wp2
  go_ret2
  exact ⟨g, c', rfl, HO.out, HB.out⟩
set_option maxRecDepth 100000 in
set_option maxHeartbeats 1000000 in
theorem TurnLine_ok {B B' : Rat} (f h : Nat → Nat × Nat) (t sc a1 a2 b1 b2 : Nat) (A : Option Addr) (n c : Nat) (w : World) (hn : n ≤ 64) (hf : ∀ i, i < n → Cb B (f i)) (hh : ∀ i, i < n → Cb B' (h i)) (ht : Fl .f32 t) (hsc : Fl .f32 sc)
    (hp : Trn.phW t = some (a1, a2)) (m1 : floatBits .mul .f32 a1 sc = some b1) (m2 : floatBits .mul .f32 a2 sc = some b2)
    (hx : ∀ i, i < n → ∀ w : World, Calls Try.prog 46 #[.complex .f32 (f i).1 (f i).2, .complex .f32 b1 b2] w fun e w' => e = .returned (.complex .f32 (h i).1 (h i).2) ∧ w' = w) (hA : Rd w w.heap.size 1 A n ((List.range n).map (fun i => cxv (f i)))) :
    Calls Try.prog 15 #[.slice A n c, .float .f32 t, .float .f32 sc] w fun e w' => ∃ (g c' : Nat), e = .returned (.tuple #[.slice (some ⟨g, 0, none⟩) n c', .bool true]) ∧ w'.ownsRow w.heap.size 37 1 (.slice (some ⟨g, 0, none⟩) n c') n ((List.range n).map (fun i => cxv (h i))) ∧ Below w.heap.size w w' := by
  obtain ⟨v, ev⟩ : ∃ v, v = w.alloc (.cells #[.complex .f32 b1 b2] 37) := ⟨_, rfl⟩
  have V0 : Below w.heap.size w v := by rw [ev]; exact (Below.refl _ _).alloc (Nat.le_refl _) _
  have K0 : Blk v w.heap.size 37 #[.complex .f32 b1 b2] := by rw [ev]; exact Blk.new _ _ _
  have ML := Lib.hid (mapped_ok f h A n c 45 #[.pointer (some ⟨w.heap.size, 0, none⟩)] v hn hf hh (fun args w => by kernel_rfl) (fun i hi w' hb => turn_cl (hx i hi) w' ((K0.below hb K0.lt).cell 0)) ((hA.below V0).more V0.size))
  have F1 := Lib.hid (fun w => isFinite_num ht w)
  have F2 := Lib.hid (fun w => isFinite_num hsc w)
  obtain ⟨y, hy, hpc⟩ := phasor_turn hp
  have k1 := rWide hy
  have PC := Lib.hid hpc
  have SC := Lib.hid (fun w => tscale_w m1 m2 w)
  have EV := Lib.hid ev
  have VH := Lib.hid V0
  clear ev hf hh hx hA V0 K0 hy hpc hp m1 m2
  go_enter Try.func15, Try.ntmps15
  go_wp2_with fail
  refine (F1.out _).mono ?_
  rintro e w1 ⟨rfl, hw1⟩
  subst hw1
  go_wp2_with fail
  refine (F2.out _).mono ?_
  rintro e w2 ⟨rfl, hw1⟩
  subst hw1
  go_wp2_with fail
  refine (PC.out _).mono ?_
  rintro e w3 ⟨rfl, hw1⟩
  subst hw1
  go_wp2_with fail
  refine (SC.out _).mono ?_
  rintro e w4 ⟨rfl, hw1⟩
  subst hw1
  go_wp2_with fail
  rw [← EV.out]
  refine ML.out.mono ?_
  rintro e w5 ⟨g, c', rfl, ho, hb⟩
  have HO := Lib.hid (own_base ho VH.out.size)
  have HB := Lib.hid (VH.out.trans (hb.mono VH.out.size))
  clear ho hb ML
  go_wp2
  go_ret2
  exact ⟨g, c', rfl, HO.out, HB.out⟩
set_option maxRecDepth 100000 in
set_option maxHeartbeats 4000000 in
theorem FitLine_ok {B B' : Rat} (f h : Nat → Nat × Nat) (a b t1 t2 s1 s2 d1 d2 q1 q2 : Nat) (p0 pm : Nat × Nat) (A : Option Addr) (n m c : Nat) (w : World) (hn2 : 2 ≤ n) (hn : n ≤ 64) (hm : m + 1 = n) (hf : ∀ i, i < n → Cb B (f i)) (hh : ∀ i, i < n → Cb B' (h i)) (fa : Fl .f32 a) (fb : Fl .f32 b) (ft1 : Fl .f32 t1) (ft2 : Fl .f32 t2)
    (e0 : f 0 = p0) (em : f m = pm) (k1 : floatBits .sub .f32 t1 a = some s1) (k2 : floatBits .sub .f32 t2 b = some s2) (k3 : floatBits .sub .f32 pm.1 p0.1 = some d1) (k4 : floatBits .sub .f32 pm.2 p0.2 = some d2)
    (hq : ∀ w : World, Calls Try.prog 50 #[.complex .f32 s1 s2, .complex .f32 d1 d2] w fun e w' => e = .returned (.complex .f32 q1 q2) ∧ w' = w)
    (hx : ∀ i, i < n → ∃ e1 e2 m1 m2, floatBits .sub .f32 (f i).1 p0.1 = some e1 ∧ floatBits .sub .f32 (f i).2 p0.2 = some e2 ∧ (∀ w : World, Calls Try.prog 46 #[.complex .f32 e1 e2, .complex .f32 q1 q2] w fun e w' => e = .returned (.complex .f32 m1 m2) ∧ w' = w) ∧ floatBits .add .f32 a m1 = some (h i).1 ∧ floatBits .add .f32 b m2 = some (h i).2)
    (hA : Rd w w.heap.size 1 A n ((List.range n).map (fun i => cxv (f i)))) :
    Calls Try.prog 19 #[.slice A n c, .complex .f32 a b, .complex .f32 t1 t2] w fun e w' => ∃ (g c' : Nat), e = .returned (.tuple #[.slice (some ⟨g, 0, none⟩) n c', .bool true]) ∧ w'.ownsRow w.heap.size 37 1 (.slice (some ⟨g, 0, none⟩) n c') n ((List.range n).map (fun i => cxv (h i))) ∧ Below w.heap.size w w' := by
  obtain ⟨v, ev⟩ : ∃ v, v = w.alloc (.cells #[.complex .f32 a b] 37) := ⟨_, rfl⟩
  have V0 : Hid (Below w.heap.size w v) := by rw [ev]; exact Lib.hid ((Below.refl _ _).alloc (Nat.le_refl _) _)
  have K0 : Hid (Blk v w.heap.size 37 #[.complex .f32 a b]) := by rw [ev]; exact Lib.hid (Blk.new _ _ _)
  have ML := Lib.hid (fun (ga gq : Nat) (w' : World) (hb : Below w.heap.size w w') (ca : ∀ w'', Below w'.heap.size w' w'' → w''.cell? ⟨w.heap.size, 0, none⟩ = some (.complex .f32 a b) ∧ w''.cell? ⟨ga, 0, none⟩ = some (.complex .f32 p0.1 p0.2) ∧ w''.cell? ⟨gq, 0, none⟩ = some (.complex .f32 q1 q2)) =>
    mapped_ok f h A n c 52 #[.pointer (some ⟨w.heap.size, 0, none⟩), .pointer (some ⟨ga, 0, none⟩), .pointer (some ⟨gq, 0, none⟩)] w' hn hf hh (fun args w => by kernel_rfl) (fun i hi w'' hb' => by
      obtain ⟨e1, e2, m1, m2, x1, x2, x3, x4, x5⟩ := hx i hi
      obtain ⟨c1, c2, c3⟩ := ca w'' hb'
      exact fit_cl x1 x2 x3 x4 x5 w'' c1 c2 c3) ((hA.below hb).more hb.size))
  have F1 := Lib.hid (fun w => finiteC_num fa fb w)
  have F2 := Lib.hid (fun w => finiteC_num ft1 ft2 w)
  have S1 := Lib.hid (fun w => tsub_w k1 k2 w)
  have S2 := Lib.hid (fun w => tsub_w k3 k4 w)
  have QU := Lib.hid hq
  have HA : Hid (∀ w', Below w.heap.size w w' → Rd w' w'.heap.size 1 A n ((List.range n).map (fun i => cxv (f i)))) := Lib.hid fun w' hb => (hA.below hb).more hb.size
  have EV := Lib.hid ev
  have c0 := K0.out.cell 0
  rw [ev] at c0
  have hmI : (n : Int) - 1 = (m : Int) := by omega
  have hwm : IntKind.i64.wrap ((n : Int) - 1) = (m : Int) := by rw [hmI]; exact IntWalk.i64_in _ (by omega)
  have hmn : (m : Int) < (n : Int) := by omega
  have hm0 : (0 : Int) ≤ (m : Int) := by omega
  have hn0 : (0 : Int) < (n : Int) := by omega
  have hn0N : 0 < n := by omega
  have HE := Lib.hid (And.intro e0 em)
  obtain ⟨x0, y0⟩ := p0
  obtain ⟨xm, ym⟩ := pm
  clear ev hf hh hx hA hq k1 k2 k3 k4 hmI
  go_enter Try.func19, Try.ntmps19
  go_wp2_with fail
  refine (F1.out _).mono ?_
  rintro e w1 ⟨rfl, hw1⟩
  obtain rfl := hw1.symm
  clear c0
  rw [← EV.out]
  go_wp2_with fail
  refine (F2.out _).mono ?_
  rintro e w1 ⟨rfl, hw1⟩
  obtain rfl := hw1.symm
  have R1 := (HA.out _ V0.out).2 (by omega)
  obtain ⟨bA, off, eA, hbb, hc⟩ := R1
  subst eA
  have z0 := hc 0 _ (range_map_get (fun i => cxv (f i)) (show 0 < n by omega))
  have zm := hc m _ (range_map_get (fun i => cxv (f i)) (show m < n by omega))
  rw [HE.out.1] at z0
  rw [HE.out.2] at zm
  unfold cxv at z0 zm
  simp only [Nat.add_zero] at z0 zm
  clear hc
  have SPH : Hid (∀ w', Below v.heap.size v w' → w'.cell? ⟨bA, off, none⟩ = some (.complex .f32 x0 y0) ∧ w'.cell? ⟨bA, off + m, none⟩ = some (.complex .f32 xm ym) ∧ Below v.heap.size v w') := Lib.hid fun w' hb => ⟨(hb.cell (p := ⟨bA, off, none⟩) hbb).trans z0, (hb.cell (p := ⟨bA, off + m, none⟩) hbb).trans zm, hb⟩
  have D1 := Lib.hid ((Below.refl v.heap.size v).drew)
  have D2 := Lib.hid (((Below.refl v.heap.size v).alloc (Nat.le_refl _) (.cells #[.complex .f32 0 0] 37)).drew)
  have D3 := Lib.hid (((Below.refl v.heap.size v).drew).alloc (Nat.le_refl _) (.cells #[.complex .f32 0 0] 37))
  have D4 := Lib.hid (((Below.refl v.heap.size v).alloc (Nat.le_refl _) (.cells #[.complex .f32 x0 y0] 37)).drew)
  have D5 := Lib.hid (((Below.refl v.heap.size v).drew).alloc (Nat.le_refl _) (.cells #[.complex .f32 x0 y0] 37))
  have B4 := Lib.hid ((Blk.new v 37 #[.complex .f32 x0 y0]).drew)
  have B5 : Hid (Blk (v.drew.alloc (.cells #[.complex .f32 x0 y0] 37)) v.heap.size 37 #[.complex .f32 x0 y0]) := Lib.hid (Blk.new v.drew 37 #[.complex .f32 x0 y0])
  go_upto_region 3 with fail
  go_cut [8, 9] from 24 to 32 (fun sa sb wx => sa = .pointer (some ⟨v.heap.size, 0, none⟩) ∧ sb = .complex .f32 xm ym ∧ Hid (Blk wx v.heap.size 37 #[.complex .f32 x0 y0]) ∧ Hid (Below v.heap.size v wx))
  case first =>
    as_aux_lemma =>
      go_region_held3 (fun w' => w'.cell? ⟨bA, off, none⟩ = some (.complex .f32 x0 y0) ∧ w'.cell? ⟨bA, off + m, none⟩ = some (.complex .f32 xm ym) ∧ Below v.heap.size v w')
        (first
          | exact SPH.out _ D1.out
          | exact SPH.out _ D2.out
          | exact SPH.out _ D3.out
          | exact SPH.out _ D4.out
          | exact SPH.out _ D5.out
          | go_keep)
        (first | fail)
      all_goals
        go_wp2
        go_meet
        first
          | exact ⟨rfl, rfl, B4, D4⟩
          | exact ⟨rfl, rfl, B5, D5⟩
  case rest =>
    obtain ⟨rfl, rfl, K1, V1⟩ := hcut
    generalize wc = w1 at *
    clear SPH D1 D2 D3 D4 D5 B4 B5 z0 zm hwm
    have SPH : Hid (∀ w', Below w1.heap.size w1 w' → w'.cell? ⟨w.heap.size, 0, none⟩ = some (.complex .f32 a b) ∧ w'.cell? ⟨v.heap.size, 0, none⟩ = some (.complex .f32 x0 y0) ∧ Below w1.heap.size w1 w') := Lib.hid fun w' hb => ⟨((K0.out.below V1.out K0.out.lt).below hb (Nat.lt_of_lt_of_le K0.out.lt V1.out.size)).cell 0, (K1.out.below hb K1.out.lt).cell 0, hb⟩
    have D1 := Lib.hid ((Below.refl w1.heap.size w1).drew)
    have D2 := Lib.hid (((Below.refl w1.heap.size w1).alloc (Nat.le_refl _) (.cells #[.complex .f32 0 0] 37)).drew)
    have D4 := Lib.hid (((Below.refl w1.heap.size w1).alloc (Nat.le_refl _) (.cells #[.complex .f32 q1 q2] 37)).drew)
    have B4 := Lib.hid ((Blk.new w1 37 #[.complex .f32 q1 q2]).drew)
    obtain ⟨cc0, cc1, _⟩ := SPH.out w1 (Below.refl _ _)
    go_upto_region 4 with fail
    go_cut [10] from 33 to 39 (fun sa wx => sa = .pointer (some ⟨w1.heap.size, 0, none⟩) ∧ Hid (Blk wx w1.heap.size 37 #[.complex .f32 q1 q2]) ∧ Hid (Below w1.heap.size w1 wx))
    case first =>
      as_aux_lemma =>
        go_region_held3 (fun w' => w'.cell? ⟨w.heap.size, 0, none⟩ = some (.complex .f32 a b) ∧ w'.cell? ⟨v.heap.size, 0, none⟩ = some (.complex .f32 x0 y0) ∧ Below w1.heap.size w1 w')
          (first
            | exact SPH.out _ D1.out
            | exact SPH.out _ D2.out
            | exact SPH.out _ D4.out
            | go_keep)
          (first
            | (go_at_call 51; with_reducible refine Calls.mono (S1.out _) ?_; rintro e w5 ⟨rfl, hw5⟩; obtain rfl := hw5.symm)
            | (go_at_call 51; with_reducible refine Calls.mono (S2.out _) ?_; rintro e w5 ⟨rfl, hw5⟩; obtain rfl := hw5.symm)
            | (go_at_call 50; with_reducible refine Calls.mono (QU.out _) ?_; rintro e w5 ⟨rfl, hw5⟩; obtain rfl := hw5.symm))
        all_goals
          go_wp2
          go_meet
          exact ⟨rfl, B4, D4⟩
    case rest =>
      obtain ⟨rfl, K2, V2⟩ := hcut
      generalize wc = w2 at *
      have VV := Lib.hid (V0.out.trans ((V1.out.mono V0.out.size).trans (V2.out.mono (by have := V0.out.size; have := V1.out.size; omega))))
      have MM := Lib.hid (ML.out v.heap.size w1.heap.size w2 VV.out (fun w'' hb => by
        have h1 := SPH.out w'' (V2.out.trans (hb.mono V2.out.size))
        exact ⟨h1.1, h1.2.1, (K2.out.below hb K2.out.lt).cell 0⟩))
      clear SPH D1 D2 D4 B4 ML
      go_wp2_with fail
      refine MM.out.mono ?_
      rintro e w5 ⟨g, c', rfl, ho, hb⟩
      have HO := Lib.hid (own_base ho VV.out.size)
      have HB := Lib.hid (VV.out.trans (hb.mono VV.out.size))
      clear ho hb MM
      go_wp2
      go_ret2
      exact ⟨g, c', rfl, HO.out, HB.out⟩
end Go.Proofs.Ytkldgcgijkfpaaa

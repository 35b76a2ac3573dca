/- Walk: the law on groups of fields. Conditions: at most 2^63 bytes. -/
import Derived.Test.YtknonmfffcjonaaKd
import Derived.Test.YtknonmfffcjonaaIo
import Derived.Test.YtknonmfffcjonaaBt
import Derived.Test.YtknonmfffcjonaaGt
import Derived.Test.YtknonmfffcjonaaSt
import Derived.Test.YtknonmfffcjonaaFt
import Derived.Lib.MinMax
namespace Go.Proofs.Ytknonmfffcjonaa
open Go.RowKit

theorem below_drewN' {B : Nat} {a w : World} (h : Below B a w) (n : Nat) : Below B a (w.drewN n) := ⟨h.os, h.tape, h.output, h.size, h.block⟩
theorem path_zero (T : List Int) (nb : Nat → List Nat) (f a : Nat) : (pathTo T nb f a)[0]? = some a := by
  cases f <;> rfl
theorem path_cells {cs : List Bool} {W H N pl : Nat} {T : List Int} {last : Int} (hWN : W ≤ N) (hnb : ∀ j < N, ∀ b ∈ nbs W H j, b < N) (hd : Down (nbs W H) T) (ht : TSt cs N (nbs W H) W T [] last) (hpl : (fpInts T W H N).length = pl) :
    (∀ k < pl, ∃ p : Nat, (fpInts T W H N)[k]? = some (p : Int) ∧ p < N ∧ T.getD p (-1) = ((pl - 1 - k : Nat) : Int)) ∧
    (fpOk T W N = true → 0 < pl ∧ ∃ p : Nat, (fpInts T W H N)[0]? = some (p : Int) ∧ N - W ≤ p ∧ p < N) ∧
    (0 < pl → ∃ p : Nat, (fpInts T W H N)[pl - 1]? = some (p : Int) ∧ p < W) := by
  unfold fpInts at hpl ⊢
  rw [List.length_map] at hpl
  unfold fpOk
  rw [decide_eq_true_eq]
  by_cases h : 0 ≤ bestTo T (N - W) W
  · obtain ⟨a, ea⟩ : ∃ a : Nat, bestTo T (N - W) W = (a : Int) := ⟨_, (Int.toNat_of_nonneg h).symm⟩
    have hge := bestTo_ge h
    have hbd := bestTo_bd T (N - W) W
    have h3 := hbd.2.2 h
    rw [ea, Int.toNat_natCast] at h3
    rw [ea] at hge
    have haN : a < N := by have := hbd.2.1; rw [ea] at this; omega
    rw [fpList_yes ea] at hpl ⊢
    unfold pathOf at hpl ⊢
    obtain ⟨f, ef⟩ : ∃ f : Nat, T.getD a (-1) = (f : Int) := ⟨_, (Int.toNat_of_nonneg h3).symm⟩
    rw [ef, Int.toNat_natCast] at hpl ⊢
    rw [pathTo_len] at hpl
    subst hpl
    have P := path_at hnb hd f a haN ef
    refine ⟨fun k hk => ?_, fun _ => ⟨by omega, a, ?_, by omega, haN⟩, fun _ => ?_⟩
    · obtain ⟨p, q1, q2, q3⟩ := P k (by omega)
      exact ⟨p, by rw [List.getElem?_map, q1]; rfl, q2, by rw [q3]; rfl⟩
    · rw [List.getElem?_map, path_zero]; rfl
    · obtain ⟨p, q1, q2, q3⟩ := P f (Nat.le_refl _)
      have h0 : T.getD p (-1) = 0 := by rw [q3]; omega
      exact ⟨p, by rw [List.getElem?_map, show f + 1 - 1 = f from rfl, q1]; rfl, ((ht.top p q2).1 h0).1⟩
  · rw [fpList_no (by omega)] at hpl ⊢
    have : pl = 0 := by rw [← hpl]; rfl
    exact ⟨fun k hk => absurd hk (by omega), fun h' => absurd h' h, fun h' => absurd h' (by omega)⟩
theorem time_hi {N : Nat} {T : List Int} (h : BInv N T []) {j : Nat} (hj : j < N) : T.getD j (-1) ≤ (N : Int) := by
  have h1 := h.hi j
  have h2 : burnt T ≤ N := by
    unfold burnt
    rw [← h.len]
    exact List.countP_le_length
  rw [← getD_two (by rw [h.len]; exact hj)]
  omega
set_option maxHeartbeats 400000 in
theorem b10Long_any (A A' : Option Addr) (n c n' c' : Nat) (w : World) (hn : n ≤ maxLen) (hn' : n' ≤ maxLen) :
    Calls Try.prog 5 #[.slice A n c, .slice A' n' c'] w fun e w' => e = .returned (.bool (decide (1048576 < n) || decide (1048576 < n'))) ∧ w' = w := by
  unfold maxLen at hn hn'
  by_cases h1 : 1048576 < n
  · go_enter Try.func5, Try.ntmps5
    go_wp2
    go_ret
    exact ⟨ret_bool (by simp [h1]), rfl⟩
  · by_cases h2 : 1048576 < n'
    · go_enter Try.func5, Try.ntmps5
      go_wp2
      go_ret
      exact ⟨ret_bool (by rw [Bool.eq_iff_iff]; simp; omega), rfl⟩
    · go_enter Try.func5, Try.ntmps5
      go_wp2
      go_ret
      exact ⟨ret_bool (by rw [Bool.eq_iff_iff]; simp; omega), rfl⟩
def sidesTo (s r d : Nat) : Nat → Nat
  | 0 => s
  | 1 => s + r
  | _ + 2 => s + r + d
set_option maxRecDepth 100000 in
set_option maxHeartbeats 400000 in
theorem lawFg_long (A1 A2 : Option Addr) (n1 c1 n2 c2 : Nat) (w : World) (hn1 : n1 ≤ maxLen) (hn2 : n2 ≤ maxLen) (hbig : ¬ (n1 ≤ 1048576 ∧ n2 ≤ 1048576)) :
    Calls Try.prog 3 #[.slice A1 n1 c1, .slice A2 n2 c2] w fun e w' => e = .returned (.bool true) ∧ Below w.heap.size w w' := by
  have e : (decide (1048576 < n1) || decide (1048576 < n2)) = true := by
    by_cases h : n1 ≤ 1048576
    · have : 1048576 < n2 := by omega
      simp [this]
    · have : 1048576 < n1 := by omega
      simp [this]
  have LC := b10Long_any A1 A2 n1 c1 n2 c2 w hn1 hn2
  rw [e] at LC
  have LCH := Lib.hid LC
  clear LC e
  go_enter Try.func3, Try.ntmps3
  go_wp2_with fail
  refine LCH.out.mono ?_
  rintro e w1 ⟨rfl, rfl⟩
  go_wp2
  go_ret
  exact ⟨rfl, Below.refl _ _⟩
set_option maxRecDepth 100000 in
set_option maxHeartbeats 16000000 in
theorem lawFg_any (A1 A2 : Option Addr) (n1 c1 n2 c2 : Nat) (bs : List Nat) (w : World) (hn1 : n1 ≤ 1048576) (hn2 : n2 ≤ 1048576) (hc1 : n1 ≤ c1) (hbs : ∀ x ∈ bs, x < 256) (hA : Rd w w.heap.size 1 A1 n1 (bs.map u8v)) :
    Calls Try.prog 3 #[.slice A1 n1 c1, .slice A2 n2 c2] w fun e w' => e = .returned (.bool true) ∧ Below w.heap.size w w' := by
  have LC := b10Long_any A1 A2 n1 c1 n2 c2 w (by unfold maxLen; omega) (by unfold maxLen; omega)
  rw [show (decide (1048576 < n1) || decide (1048576 < n2)) = false by simp; omega] at LC
  have LCH := Lib.hid LC
  have FC := Lib.hid (B10Field_any n1 c1 A1 bs w hn1 hc1 hbs hA)
  clear LC hA hbs
  go_enter Try.func3, Try.ntmps3
  go_wp2_with fail
  refine LCH.out.mono ?_
  rintro e w0 ⟨rfl, hw0⟩
  obtain rfl := hw0.symm
  go_wp2_with fail
  refine FC.out.mono ?_
  rintro e w1 ⟨W, H, cs, Ao, co, rfl, h1, h2, h3, h4, hcl, ho, hb⟩
  obtain ⟨N, eN⟩ : ∃ N, W * H = N := ⟨_, rfl⟩
  rw [eN] at hcl
  rw [hcl] at ho ⊢
  have hN1 : 1 ≤ N := by rw [← eN]; exact Nat.le_trans h1 (Nat.le_mul_of_pos_right W h3)
  have hN36 : N ≤ 36 := by rw [← eN]; exact Nat.mul_le_mul h2 h4
  have hWN : W ≤ N := by rw [← eN]; exact Nat.le_mul_of_pos_right W h3
  have hval : validB (W : Int) (H : Int) N = true := by
    unfold validB
    have : (W : Int) * (H : Int) = (N : Int) := by rw [← eN]; simp
    simp only [decide_eq_true_eq]
    omega
  have hnb : ∀ j < N, ∀ b ∈ nbs W H j, b < N := fun j hj b hb => by
    rw [← eN] at hj ⊢
    exact nbs_lt hj hb
  have hsym : ∀ j < N, ∀ b ∈ nbs W H j, j ∈ nbs W H b := fun j hj b hb => by
    rw [← eN] at hj
    exact nbs_sym (by omega) hj hb
  have hlt : ∀ i ∈ l0 cs W N, (ts0 cs W N).getD i (-1) = -1 + 1 := fun i hi => by
    rw [l0_cut hWN] at hi
    exact l0_time hWN i hi
  have hD0 : Down (nbs W H) (ts0 cs W N) := fun j hj => by
    have := ts0_nonpos cs W N j
    omega
  have hTD := hD0.lrun (cs := cs) (F := N + 1) hnb hsym (binv0 hcl) hlt (by omega)
  have hTI := lrun_inv (cs := cs) (F := N + 1) hnb (binv0 hcl) hlt (by omega)
  have hTK := times_ok (cs := cs) (W := W) (nb := nbs W H) hnb hcl
  obtain ⟨w2, ew2⟩ : ∃ w2, w2 = w1.alloc (.cells #[.int .i64 (W : Int), .int .i64 (H : Int), .slice Ao N co] 26) := ⟨_, rfl⟩
  have F2 : Hid (Blk w2 w1.heap.size 26 #[.int .i64 (W : Int), .int .i64 (H : Int), .slice Ao N co]) := by rw [ew2]; exact Blk.new _ _ _
  have O2 : Hid (w2.ownsRow w.heap.size 4 1 (.slice Ao N co) N (cs.map bv)) := by rw [ew2]; exact ho.alloc _
  have V2 : Hid (Below w.heap.size w w2) := by rw [ew2]; exact hb.alloc hb.size _
  have GC := Lib.hid (implGroups_ok W H N Ao co cs w2 h1 (by omega) h3 (by omega) hcl eN hval (Rd.own O2.out))
  have b0 : (w1.alloc (.cells #[.int .i64 (W : Int), .int .i64 (H : Int), .slice Ao N co] 26)).cell? ⟨w1.heap.size, 0, none⟩ = some (.int .i64 (W : Int)) := (Blk.new _ _ _).cell 0
  have b1_ : (w1.alloc (.cells #[.int .i64 (W : Int), .int .i64 (H : Int), .slice Ao N co] 26)).cell? ⟨w1.heap.size, 1, none⟩ = some (.int .i64 (H : Int)) := (Blk.new _ _ _).cell 1
  have b2 : (w1.alloc (.cells #[.int .i64 (W : Int), .int .i64 (H : Int), .slice Ao N co] 26)).cell? ⟨w1.heap.size, 2, none⟩ = some (.slice Ao N co) := (Blk.new _ _ _).cell 2
  have E2 := Lib.hid ew2
  have HV := Lib.hid hval
  have HCL := Lib.hid hcl
  have EN := Lib.hid eN
  have HNB := Lib.hid hnb
  have HSYM := Lib.hid hsym
  have HTD := Lib.hid hTD
  have HTI := Lib.hid hTI
  have HTK := Lib.hid hTK
  unfold fieldV at GC ⊢
  clear ho hb ew2 hval hcl eN hnb hsym hlt hD0 hTD hTI hTK FC LCH
  go_wp2_with fail
  rw [← E2.out]
  refine GC.out.mono ?_
  rintro e w3 ⟨G, Z, hG, hGR⟩
  obtain ⟨A3, c3, As, cz, rfl, hoG, hoZ, hdis, hb⟩ := hGR
  have hGK := gok_of HNB.out HSYM.out (Nat.le_refl N) hG
  rw [hGK.len] at hoG ⊢
  have hm256 : Z.length ≤ N := hG.inv.num
  obtain ⟨m, em⟩ : ∃ m, Z.length = m := ⟨_, rfl⟩
  rw [em] at hoZ hm256 ⊢
  have HGK := Lib.hid hGK
  have HM := Lib.hid em
  have z3 := hb.size
  have F3 := Lib.hid (F2.out.below hb F2.out.lt)
  have V3 := Lib.hid (V2.out.trans (hb.mono V2.out.size))
  have C3 := Lib.hid ((Rd.own O2.out).below hb)
  have G3 := Lib.hid (Rd.own hoG)
  have Z3 := Lib.hid (Rd.own hoZ)
  have SC := Lib.hid (implSpans_ok W H N Ao co cs w3 h1 (by omega) h3 (by omega) HCL.out EN.out HV.out (C3.out.more z3))
  have d0 : w3.cell? ⟨w1.heap.size, 0, none⟩ = some (.int .i64 (W : Int)) := F3.out.cell 0
  have d1 : w3.cell? ⟨w1.heap.size, 1, none⟩ = some (.int .i64 (H : Int)) := F3.out.cell 1
  have d2 : w3.cell? ⟨w1.heap.size, 2, none⟩ = some (.slice Ao N co) := F3.out.cell 2
  unfold fieldV at SC
  have HG := Lib.hid hG
  clear hb hoG hoZ hdis hG hGK em F2 O2 V2 GC E2 b0 b1_ b2
  go_wp2_with fail
  refine SC.out.mono ?_
  rintro e w4 ⟨G', Z', hG', A4, c4, rfl, _, hb⟩
  obtain ⟨rfl, rfl⟩ := Grp.unique HNB.out HG.out hG'
  rw [HM.out]
  have HSP : Hid (fpOk (lrun cs (nbs W H) (N + 1) (ts0 cs W N) (l0 cs W N) (-1)).1 W N = decide (0 < (spansTo G W m).length)) := by
    have := spans_path (W := W) hWN HNB.out HSYM.out HGK.out HTK.out HTD.out
    rwa [HM.out] at this
  obtain ⟨sp, esp⟩ : ∃ sp, (spansTo G W m).length = sp := ⟨_, rfl⟩
  have hspm : sp ≤ m := by rw [← esp]; exact spansTo_le G W m
  rw [esp] at HSP ⊢
  obtain ⟨last, elast⟩ : ∃ last, (lrun cs (nbs W H) (N + 1) (ts0 cs W N) (l0 cs W N) (-1)).2 = last := ⟨_, rfl⟩
  obtain ⟨T, eT⟩ : ∃ T, (lrun cs (nbs W H) (N + 1) (ts0 cs W N) (l0 cs W N) (-1)).1 = T := ⟨_, rfl⟩
  have HT := Lib.hid eT
  have z4 := hb.size
  have F4 := Lib.hid (F3.out.below hb F3.out.lt)
  have V4 := Lib.hid (V3.out.trans (hb.mono V3.out.size))
  have C4 := Lib.hid (C3.out.below (hb.mono z3))
  have G4 := Lib.hid (G3.out.below hb)
  have Z4 := Lib.hid (Z3.out.below hb)
  have BC := Lib.hid (implBurn_ok W H N Ao co cs w4 h1 (by omega) h3 (by omega) HCL.out EN.out HV.out (C4.out.more (by omega)))
  rw [eT] at HSP HTD HTI HTK BC
  rw [elast] at HTK BC
  have e0 : w4.cell? ⟨w1.heap.size, 0, none⟩ = some (.int .i64 (W : Int)) := F4.out.cell 0
  have e1 : w4.cell? ⟨w1.heap.size, 1, none⟩ = some (.int .i64 (H : Int)) := F4.out.cell 1
  have e2 : w4.cell? ⟨w1.heap.size, 2, none⟩ = some (.slice Ao N co) := F4.out.cell 2
  unfold fieldV at BC
  clear hb hG' esp elast eT F3 V3 C3 G3 Z3 SC d0 d1 d2
  go_wp2_with fail
  refine BC.out.mono ?_
  rintro e w5 ⟨A5, c5, rfl, hoT, hb⟩
  have z5 := hb.size
  have F5 := Lib.hid (F4.out.below hb F4.out.lt)
  have V5 := Lib.hid (V4.out.trans (hb.mono V4.out.size))
  have C5 := Lib.hid (C4.out.below (hb.mono (by omega)))
  have G5 := Lib.hid (G4.out.below (hb.mono z4))
  have Z5 := Lib.hid (Z4.out.below (hb.mono z4))
  have T5 := Lib.hid (Rd.own hoT)
  have PC := Lib.hid (implPath_ok W H N Ao co cs w5 T h1 (by omega) h3 (by omega) HCL.out EN.out HV.out HT.out HTI.out HTD.out (C5.out.more (by omega)))
  unfold FpRes at PC
  rw [HSP.out] at PC
  obtain ⟨pl, epl⟩ : ∃ pl, (fpInts T W H N).length = pl := ⟨_, rfl⟩
  have hpl : pl ≤ 300 := by rw [← epl]; exact fpInts_len (by omega) HTI.out
  rw [epl] at PC
  have HPL := Lib.hid epl
  have e0 : w5.cell? ⟨w1.heap.size, 0, none⟩ = some (.int .i64 (W : Int)) := F5.out.cell 0
  have e1 : w5.cell? ⟨w1.heap.size, 1, none⟩ = some (.int .i64 (H : Int)) := F5.out.cell 1
  have e2 : w5.cell? ⟨w1.heap.size, 2, none⟩ = some (.slice Ao N co) := F5.out.cell 2
  unfold fieldV at PC
  clear hb hoT epl F4 V4 C4 G4 Z4 BC
  go_wp2_with fail
  refine PC.out.mono ?_
  rintro e w6 ⟨A6, c6, rfl, hoP, hb⟩
  have z6 := hb.size
  have F6 := Lib.hid (F5.out.below hb F5.out.lt)
  have V6 := Lib.hid (V5.out.trans (hb.mono V5.out.size))
  have C6 := Lib.hid (C5.out.below (hb.mono (by omega)))
  have G6 := Lib.hid (G5.out.below (hb.mono (by omega)))
  have Z6 := Lib.hid (Z5.out.below (hb.mono (by omega)))
  have T6 := Lib.hid (T5.out.below hb)
  have P6 := Lib.hid (Rd.own hoP)
  have EC := Lib.hid (EdgeOfField_any W H N Ao co cs w6 h1 (by omega) h3 (by omega) HCL.out EN.out HV.out (C6.out.more (by omega)))
  have e0 : w6.cell? ⟨w1.heap.size, 0, none⟩ = some (.int .i64 (W : Int)) := F6.out.cell 0
  have e1 : w6.cell? ⟨w1.heap.size, 1, none⟩ = some (.int .i64 (H : Int)) := F6.out.cell 1
  have e2 : w6.cell? ⟨w1.heap.size, 2, none⟩ = some (.slice Ao N co) := F6.out.cell 2
  unfold fieldV at EC
  clear hb hoP F5 V5 C5 G5 Z5 T5 PC
  go_wp2_with fail
  refine EC.out.mono ?_
  rintro e w7 ⟨rfl, hb⟩
  have z7 := hb.size
  have F7 := Lib.hid (F6.out.below hb F6.out.lt)
  have V7 := Lib.hid (V6.out.trans (hb.mono V6.out.size))
  have C7 := Lib.hid (C6.out.below (hb.mono (by omega)))
  have G7 := Lib.hid (G6.out.below (hb.mono (by omega)))
  have Z7 := Lib.hid (Z6.out.below (hb.mono (by omega)))
  have T7 := Lib.hid (T6.out.below (hb.mono (by omega)))
  have P7 := Lib.hid (P6.out.below hb)
  have CC := Lib.hid (CountCells_any W H N Ao co cs w7 h1 (by omega) h3 (by omega) HCL.out EN.out HV.out (C7.out.more (by omega)))
  have e0 : w7.cell? ⟨w1.heap.size, 0, none⟩ = some (.int .i64 (W : Int)) := F7.out.cell 0
  have e1 : w7.cell? ⟨w1.heap.size, 1, none⟩ = some (.int .i64 (H : Int)) := F7.out.cell 1
  have e2 : w7.cell? ⟨w1.heap.size, 2, none⟩ = some (.slice Ao N co) := F7.out.cell 2
  unfold fieldV at CC
  clear hb F6 V6 C6 G6 Z6 T6 P6 EC
  go_wp2_with fail
  refine CC.out.mono ?_
  rintro e w8 ⟨rfl, hb⟩
  have z8 := hb.size
  have F8 := Lib.hid (F7.out.below hb F7.out.lt)
  have V8 := Lib.hid (V7.out.trans (hb.mono V7.out.size))
  have C8 := Lib.hid ((C7.out.below (hb.mono (by omega))).more (show _ ≤ w8.heap.size by omega))
  have G8 := Lib.hid ((G7.out.below (hb.mono (by omega))).more (show _ ≤ w8.heap.size by omega))
  have Z8 := Lib.hid ((Z7.out.below (hb.mono (by omega))).more (show _ ≤ w8.heap.size by omega))
  have T8 := Lib.hid ((T7.out.below (hb.mono (by omega))).more (show _ ≤ w8.heap.size by omega))
  have P8 := Lib.hid ((P7.out.below (hb.mono (by omega))).more (show _ ≤ w8.heap.size by omega))
  clear hb F7 V7 C7 G7 Z7 T7 P7 CC
  obtain ⟨bG, oG, rfl, hbG, hcG⟩ := G8.out.2 (by omega)
  obtain ⟨bT, oT, rfl, hbT, hcT⟩ := T8.out.2 (by omega)
  obtain ⟨bC, oC, rfl, hbC, hcC⟩ := C8.out.2 (by omega)
  have HGL : Hid (G.length = N) := HGK.out.len
  have HTL : Hid (T.length = N) := HTK.out.len
  have CG : Hid (∀ wr, Below w8.heap.size w8 wr → ∀ i, i < N → wr.cell? ⟨bG, oG + i, none⟩ = some (.int .i64 (G.getD i 0))) := fun wr h i hi => (h.cell hbG).trans (hcG _ _ (by rw [List.getElem?_map, List.getElem?_eq_getElem (by rw [HGL.out]; exact hi), getD_lt (by rw [HGL.out]; exact hi)]; rfl))
  have CT : Hid (∀ wr, Below w8.heap.size w8 wr → ∀ i, i < N → wr.cell? ⟨bT, oT + i, none⟩ = some (.int .i64 (T.getD i (-1)))) := fun wr h i hi => (h.cell hbT).trans (hcT _ _ (by rw [List.getElem?_map, time_at (by rw [HTL.out]; exact hi)]; rfl))
  have CB : Hid (∀ wr, Below w8.heap.size w8 wr → ∀ i, i < N → wr.cell? ⟨bC, oC + i, none⟩ = some (.bool (cs.getD i false))) := fun wr h i hi => (h.cell hbC).trans (hcC _ _ (bv_get (by rw [HCL.out]; exact hi)))
  have CF : Hid (∀ wr, Below w8.heap.size w8 wr → wr.cell? ⟨w1.heap.size, 0, none⟩ = some (.int .i64 (W : Int)) ∧ wr.cell? ⟨w1.heap.size, 1, none⟩ = some (.int .i64 (H : Int)) ∧ wr.cell? ⟨w1.heap.size, 2, none⟩ = some (.slice (some ⟨bC, oC, none⟩) N co)) := fun wr h => ⟨(h.cell F8.out.lt).trans (F8.out.cell 0), (h.cell F8.out.lt).trans (F8.out.cell 1), (h.cell F8.out.lt).trans (F8.out.cell 2)⟩
  have hfl := fullN_le cs N
  have hnl := nearN_le cs W H N
  have hsumT := sum_full HGK.out HCL.out
  have HNEAR : Hid (nearN cs W H N = 2 * sideN cs W N N) := by
    have := near_two (cs := cs) (W := W) (H := H) h1
    rwa [EN.out] at this
  have HSUM := Lib.hid hsumT
  obtain ⟨nf, enf⟩ : ∃ nf, fullN cs N = nf := ⟨_, rfl⟩
  obtain ⟨nn, enn⟩ : ∃ nn, nearN cs W H N = nn := ⟨_, rfl⟩
  rw [enf] at hfl hnl HSUM ⊢
  rw [enn] at hnl HNEAR ⊢
  obtain ⟨x0, x1, x2⟩ := CF.out w8 (Below.refl _ _)
  have hqq : (!(decide (0 < sp) == decide (0 < sp))) = false := by simp
  have HZB : Hid (∀ x ∈ Z, 0 ≤ x ∧ x ≤ (N : Int)) := fun x hx => (HG.out.inv).le x hx
  have hbz := sum_take_bd HZB.out
  clear hcG hcT hcC hsumT enf enn
  go_wp2
  go_loopw [20, 110] (fun ss si wr => ∃ k : Nat, k ≤ m ∧ si = .int .i64 (k : Int) ∧ ss = .int .i64 (Z.take k).sum ∧ wr = w8) (fun _ si _ => m - (intOf si).toNat)
  case atStart => exact ⟨0, Nat.zero_le _, rfl, rfl, rfl⟩
  case round =>
    obtain ⟨k, hk, rfl, rfl, hwr⟩ := hrel
    have hbk := sum_take_bd (l := Z.take k) (n := N) (fun x hx => HZB.out x (List.mem_of_mem_take hx))
    have hkl : ((Z.take k).length * N : Nat) ≤ 1296 := by
      rw [List.length_take]
      have := Nat.mul_le_mul (show min k Z.length ≤ 36 by omega) hN36
      omega
    by_cases hlt : k < m
    · subst hwr
      obtain ⟨bZ, oZ, rfl, hbZ, hcZ⟩ := Z8.out.2 (by omega)
      obtain ⟨z, hz⟩ : ∃ z, Z[k]? = some z := ⟨_, List.getElem?_eq_getElem (by rw [HM.out]; exact hlt)⟩
      have ez : wr.cell? ⟨bZ, oZ + k, none⟩ = some (.int .i64 z) := hcZ _ _ (by rw [List.getElem?_map, hz]; rfl)
      have hzb := HZB.out z (List.mem_of_getElem? hz)
      have HS := Lib.hid (sum_take_succ hz)
      have hki : (k : Int) < (m : Int) := by omega
      obtain ⟨t, et⟩ : ∃ t, (Z.take k).sum = t := ⟨_, rfl⟩
      rw [et] at HS hbk ⊢
      have htb : 0 ≤ t ∧ t ≤ 1296 := by omega
      clear hcZ hz et
      go_wp2
      go_roundw
      case rel => exact ⟨k + 1, by omega, by go_num, by rw [HS.out], trivial⟩
      case measure => simp [intOf]; omega
    · obtain rfl : m = k := by omega
      have HT2 : Hid ((Z.take m).sum = (nf : Int)) := by
        unfold Hid
        rw [List.take_of_length_le (by rw [HM.out]; exact Nat.le_refl _)]
        exact HSUM.out
      rw [HT2.out]
      clear hbk hkl
      rw [hwr]
      clear hwr
      obtain ⟨i0, hi0, hz0, hz1, hz2⟩ := info_parts intInfo
      go_wp2_with (first
        | (at_make; refine wpList_make_full _ rfl _ _ _ rfl w8.heap.size 2 i0 (.int .i64 0) 1 Try.underlying28 hi0 hz0 hz1 .i64 .i64 m m m rfl rfl rfl rfl (by rw [hz2]; omega) (by unfold maxLen; omega) (Nat.le_refl _) ?_; intro w9 ho9 hg9
           rw [show (Value.int .i64 0).cells = #[.int .i64 0] from rfl, made_one] at ho9
           have V9 := Lib.hid (below_of_grown (B := w8.heap.size) hg9 (Nat.le_refl _) (by simp))
           have O9 : Hid (w9.ownsRow w8.heap.size 2 1 (.slice (some ⟨w8.heap.size, 0, none⟩) m m) m ((seenL cs G m 0).map iv)) := by
             rw [seenL_zero, List.map_replicate]
             exact ho9
           obtain ⟨x0, x1, x2⟩ := CF.out w9 V9.out
           clear ho9 hg9)
        | fail)
      go_loopw [22, 23, 126] (fun ss sm si wr => ∃ k : Nat, k ≤ N ∧ si = .int .i64 (k : Int) ∧ ss = .int .i64 ((sideN cs W N k : Nat) : Int) ∧ sm = .int .i64 (mostTo cs T k) ∧
        Hid (wr.ownsRow w8.heap.size 2 1 (.slice (some ⟨w8.heap.size, 0, none⟩) m m) m ((seenL cs G m k).map iv)) ∧ Below w8.heap.size w8 wr) (fun _ _ si _ => N - (intOf si).toNat)
      case atStart => exact ⟨0, Nat.zero_le _, rfl, rfl, rfl, O9.out, V9.out⟩
      case round =>
        clear O9 V9 x0 x1 x2
        obtain ⟨k, hk, rfl, rfl, rfl, O, hb⟩ := hrel
        have B := Lib.hid hb
        obtain ⟨x0, x1, x2⟩ := CF.out wr hb
        by_cases hlt : k < N
        · have eG := CG.out wr hb k hlt
          have eT := CT.out wr hb k hlt
          have eC := CB.out wr hb k hlt
          have hki : (k : Int) < (N : Int) := by omega
          have hsl := sideN_le cs W N k
          have hgm := HGK.out.hi k hlt
          rw [HM.out] at hgm
          have htl := time_le HTK.out hlt
          have HSI : Hid (sideN cs W N (k + 1) = sideN cs W N k + (if cs.getD k false then b1 (rtN cs W N k) + b1 (dnN cs W N k) else 0)) := rfl
          have HMO : Hid (mostTo cs T (k + 1) = if cs.getD k false then (if T.getD k (-1) > mostTo cs T k then T.getD k (-1) else mostTo cs T k) else mostTo cs T k) := rfl
          clear hb
          cases hc : cs.getD k false
          ·
            -- <<A
            as_aux_lemma =>
              have hg0 := HGK.out.none_ k hlt hc
              have ht1 : T.getD k (-1) = -1 := by
                by_cases h0 : 0 ≤ T.getD k (-1)
                · have := HTK.out.full k hlt h0
                  rw [hc] at this
                  cases this
                · omega
              have HSN : Hid (seenL cs G m (k + 1) = seenL cs G m k) := seenL_no hc
              rw [hc] at eC HSI HMO
              rw [ht1] at eT
              obtain ⟨g, eg⟩ : ∃ g, G.getD k 0 = g := ⟨_, rfl⟩
              rw [eg] at eG hg0 hgm
              obtain ⟨sd, esd⟩ : ∃ sd, sideN cs W N k = sd := ⟨_, rfl⟩
              obtain ⟨mo, emo⟩ : ∃ mo, mostTo cs T k = mo := ⟨_, rfl⟩
              rw [esd] at HSI hsl ⊢
              rw [emo] at HMO ⊢
              have q1 : decide ((0 : Int) ≤ g) = false := by simp; omega
              have q2 : decide ((m : Int) ≤ g) = false := by simp; omega
              clear hc eg esd emo ht1 htl
              go_wp2
              go_big_quiet (fail)
              have B2 := Lib.hid (below_drewN' B.out nq)
              have O2 : Hid ((World.drewN wr nq).ownsRow w8.heap.size 2 1 (.slice (some ⟨w8.heap.size, 0, none⟩) m m) m ((seenL cs G m k).map iv)) := O.out
              obtain ⟨y0, y1, y2⟩ := CF.out _ B2.out
              have fC : (World.drewN wr nq).cell? ⟨bC, oC + k, none⟩ = some (.bool false) := eC
              clear x0 x1 x2 eC eG eT O B
              generalize World.drewN wr nq = wq at *
              go_wp2
              go_roundw
              case rel => exact ⟨k + 1, by omega, by go_num, by rw [HSI.out]; rfl, by rw [HMO.out]; rfl, by rw [HSN.out]; exact O2, B2.out⟩
              case measure => simp [intOf]; omega
            -- >>A
          · obtain ⟨g, eg⟩ : ∃ g : Nat, G.getD k 0 = (g : Int) := by
              have := HGK.out.some_ k hlt hlt hc
              exact ⟨(G.getD k 0).toNat, by omega⟩
            have HSY : Hid (seenL cs G m (k + 1) = (seenL cs G m k).set g (((cntG cs G g k : Nat) : Int) + 1)) := seenL_yes hc eg
            have hth := time_hi HTI.out hlt
            rw [hc] at eC HSI HMO
            rw [eg] at eG hgm
            have hgm' : g < m := by omega
            have hsg := seenL_get (cs := cs) (G := G) (k := k) hgm'
            have hcl := cntG_le cs G g k
            obtain ⟨cg, ecg⟩ : ∃ cg, cntG cs G g k = cg := ⟨_, rfl⟩
            rw [ecg] at hsg hcl HSY
            have HC := Lib.hid hc
            have HEG := Lib.hid eg
            obtain ⟨ti, eti⟩ : ∃ ti, T.getD k (-1) = ti := ⟨_, rfl⟩
            have HET := Lib.hid eti
            rw [eti] at eT htl hth HMO
            obtain ⟨sd, esd⟩ : ∃ sd, sideN cs W N k = sd := ⟨_, rfl⟩
            have hmb : -1 ≤ mostTo cs T k ∧ mostTo cs T k ≤ (N : Int) := mostTo_bd (by omega) (fun i hi => time_hi HTI.out (by omega))
            obtain ⟨mo, emo⟩ : ∃ mo, mostTo cs T k = mo := ⟨_, rfl⟩
            rw [esd] at HSI hsl ⊢
            rw [emo] at HMO hmb ⊢
            obtain ⟨gi, egi⟩ : ∃ gi : Int, (g : Int) = gi := ⟨_, rfl⟩
            rw [egi] at eG
            have q1 : decide ((0 : Int) ≤ gi) = true := by simp; omega
            have q2 : decide ((m : Int) ≤ gi) = false := by simp; omega
            have GI := Lib.hid egi
            have s0 : wr.cell? ⟨w8.heap.size, g, none⟩ = some (.int .i64 (cg : Int)) := by
              rw [O.out.cellAt _ (by omega), List.getElem?_map, hsg]
              rfl
            clear hc eg esd emo eti ecg hsg egi
            go_wp2
            go_big_quiet (fail)
            have B2 := Lib.hid (below_drewN' B.out nq)
            have O2 : Hid ((World.drewN wr nq).ownsRow w8.heap.size 2 1 (.slice (some ⟨w8.heap.size, 0, none⟩) m m) m ((seenL cs G m k).map iv)) := O.out
            obtain ⟨y0, y1, y2⟩ := CF.out _ B2.out
            have fC : (World.drewN wr nq).cell? ⟨bC, oC + k, none⟩ = some (.bool true) := eC
            have fG : (World.drewN wr nq).cell? ⟨bG, oG + k, none⟩ = some (.int .i64 gi) := eG
            have s1 : (World.drewN wr nq).cell? ⟨w8.heap.size, g, none⟩ = some (.int .i64 (cg : Int)) := s0
            clear x0 x1 x2 eC eG eT O B s0
            generalize World.drewN wr nq = wq at *
            clear q1 q2
            obtain rfl := GI.out.symm
            obtain ⟨ho3, hg3⟩ := O2.out.stored g (.int .i64 ((cg : Int) + 1))
            have O3 : Hid ((wq.setCell ⟨w8.heap.size, g, none⟩ (.int .i64 ((cg : Int) + 1))).ownsRow w8.heap.size 2 1 (.slice (some ⟨w8.heap.size, 0, none⟩) m m) m ((seenL cs G m (k + 1)).map iv)) := by
              rw [HSY.out, List.map_set]
              exact ho3
            have B3 := Lib.hid (below_set B2.out (p := ⟨w8.heap.size, g, none⟩) (Nat.le_refl _) (.int .i64 ((cg : Int) + 1)))
            have f0 : wq.frozen? ⟨w8.heap.size, g, none⟩ = false := O2.out.frozenAt _
            have gT := CT.out _ B3.out k hlt
            rw [HET.out] at gT
            clear ho3 hg3
            go_wp2
            clear y0 y1 y2 fC fG s1 gT f0 B2 O2
            generalize wq.setCell ⟨w8.heap.size, g, none⟩ (.int .i64 ((cg : Int) + 1)) = w9 at *
            obtain ⟨rb, erb⟩ : ∃ rb, b1 (rtN cs W N k) = rb := ⟨_, rfl⟩
            obtain ⟨db, edb⟩ : ∃ db, b1 (dnN cs W N k) = db := ⟨_, rfl⟩
            have hrb : rb ≤ 1 := by rw [← erb]; unfold b1; split <;> omega
            have hdb : db ≤ 1 := by rw [← edb]; unfold b1; split <;> omega
            have HRB := Lib.hid erb
            have HDB := Lib.hid edb
            rw [erb, edb] at HSI
            clear erb edb
            go_loopw [22, 26] (fun ss sk wr => ∃ q : Nat, q ≤ 2 ∧ sk = .int .i64 (q : Int) ∧ ss = .int .i64 ((sidesTo sd rb db q : Nat) : Int) ∧
              Hid (wr.ownsRow w8.heap.size 2 1 (.slice (some ⟨w8.heap.size, 0, none⟩) m m) m ((seenL cs G m (k + 1)).map iv)) ∧ Below w8.heap.size w8 wr) (fun _ sk _ => 2 - (intOf sk).toNat)
            case atStart => exact ⟨0, Nat.zero_le _, rfl, rfl, O3.out, B3.out⟩
            case round =>
              clear O3 B3
              obtain ⟨q, hq, rfl, rfl, O, hb⟩ := hrel
              have B := Lib.hid hb
              obtain ⟨x0, x1, x2⟩ := CF.out wr hb
              have eG := CG.out wr hb k hlt
              have eT := CT.out wr hb k hlt
              have eC := CB.out wr hb k hlt
              rw [HEG.out] at eG
              rw [HET.out] at eT
              rw [HC.out] at eC
              clear hb
              obtain rfl | rfl | rfl : q = 0 ∨ q = 1 ∨ q = 2 := by omega
              · show Code.wp _ _ _ _ _
                -- <<B
                as_aux_lemma =>
                  have HS0 : Hid (sidesTo sd rb db 0 = sd) := rfl
                  rw [HS0.out]
                  obtain ⟨jv, ejv⟩ : ∃ jv : Nat, k + 1 = jv := ⟨_, rfl⟩
                  have HJ := Lib.hid ejv
                  have hjv : (k : Int) + 1 = (jv : Int) := by omega
                  have hjN : jv ≤ N := by omega
                  clear ejv
                  have hWi : (W : Int) ≠ 0 := by omega
                  obtain ⟨mm, hmm, hmmW, HMM⟩ : ∃ mm : Nat, (jv : Int) % (W : Int) = (mm : Int) ∧ mm < W ∧ Hid (jv % W = mm) := ⟨jv % W, by omega, Nat.mod_lt _ (by omega), rfl⟩
                  by_cases hm0 : mm = 0
                  · have HR : Hid (rb = 0) := by
                      rw [← HRB.out]
                      show b1 (rtN cs W N k) = 0
                      unfold rtN
                      rw [HJ.out, HMM.out]
                      simp [hm0, b1]
                    rw [show (mm : Int) = 0 by omega] at hmm
                    go_wp2
                    go_roundw
                    case rel => exact ⟨1, by omega, rfl, by rw [show sidesTo sd rb db 1 = sd + rb from rfl, HR.out]; rfl, O.out, B.out⟩
                    case measure => simp [intOf]
                  · by_cases hj : jv < N
                    · have eCj := CB.out wr B.out jv hj
                      have hji : ¬ (N : Int) ≤ (jv : Int) := by omega
                      cases hcj : cs.getD jv false
                      · have HR : Hid (rb = 0) := by
                          rw [← HRB.out]
                          show b1 (rtN cs W N k) = 0
                          unfold rtN
                          rw [HJ.out, hcj]
                          simp [b1]
                        rw [hcj] at eCj
                        clear hcj
                        go_wp2
                        go_roundw
                        case rel => exact ⟨1, by omega, rfl, by rw [show sidesTo sd rb db 1 = sd + rb from rfl, HR.out]; rfl, O.out, B.out⟩
                        case measure => simp [intOf]
                      · have HR : Hid (rb = 1) := by
                          rw [← HRB.out]
                          show b1 (rtN cs W N k) = 1
                          unfold rtN
                          rw [HJ.out, hcj, HMM.out]
                          simp [b1, hm0, hj]
                        have hmem : jv ∈ nbs W H k := by rw [← HJ.out]; exact rt_mem (by rw [HJ.out, HMM.out]; exact hm0) h1
                        have hnr := time_near HNB.out HSYM.out HTK.out hlt hmem HC.out hcj
                        have hsd := HGK.out.side k hlt (by rw [HEG.out]; omega) jv hmem hcj
                        have eGj := CG.out wr B.out jv hj
                        have eTj := CT.out wr B.out jv hj
                        rw [hsd, HEG.out] at eGj
                        rw [HET.out] at hnr
                        have htl2 := time_le HTK.out hj
                        have hth2 := time_hi HTI.out hj
                        obtain ⟨tj, etj⟩ : ∃ tj, T.getD jv (-1) = tj := ⟨_, rfl⟩
                        rw [etj] at hnr eTj htl2 hth2
                        rw [hcj] at eCj
                        have p3 : decide (tj + 1 < ti) = false := by simp; omega
                        have p4 : decide (ti + 1 < tj) = false := by simp; omega
                        clear hmem hsd etj hcj
                        by_cases hneg : ti < 0
                        · have p1 : decide (ti < 0) = true := by simp; omega
                          have p2 : decide (tj < 0) = true := by simp; omega
                          clear hnr hneg
                          go_wp2
                          go_big_quiet (fail)
                          have B2 := Lib.hid (below_drewN' B.out nq)
                          have O2 : Hid ((World.drewN wr nq).ownsRow w8.heap.size 2 1 (.slice (some ⟨w8.heap.size, 0, none⟩) m m) m ((seenL cs G m (k + 1)).map iv)) := O.out
                          clear x0 x1 x2 eC eG eT eCj eGj eTj O B
                          generalize World.drewN wr nq = wv at *
                          go_wp2
                          go_roundw
                          case rel => exact ⟨1, by omega, rfl, by rw [show sidesTo sd rb db 1 = sd + rb from rfl, HR.out]; go_num, O2.out, B2.out⟩
                          case measure => simp [intOf]
                        · have p1 : decide (ti < 0) = false := by simp; omega
                          have p2 : decide (tj < 0) = false := by simp; omega
                          clear hnr hneg
                          go_wp2
                          go_big_quiet (fail)
                          have B2 := Lib.hid (below_drewN' B.out nq)
                          have O2 : Hid ((World.drewN wr nq).ownsRow w8.heap.size 2 1 (.slice (some ⟨w8.heap.size, 0, none⟩) m m) m ((seenL cs G m (k + 1)).map iv)) := O.out
                          clear x0 x1 x2 eC eG eT eCj eGj eTj O B
                          generalize World.drewN wr nq = wv at *
                          go_wp2
                          go_roundw
                          case rel => exact ⟨1, by omega, rfl, by rw [show sidesTo sd rb db 1 = sd + rb from rfl, HR.out]; go_num, O2.out, B2.out⟩
                          case measure => simp [intOf]
                    · have HR : Hid (rb = 0) := by
                        rw [← HRB.out]
                        show b1 (rtN cs W N k) = 0
                        unfold rtN
                        rw [HJ.out]
                        simp [hj, b1]
                      have hji : (N : Int) ≤ (jv : Int) := by omega
                      go_wp2
                      go_roundw
                      case rel => exact ⟨1, by omega, rfl, by rw [show sidesTo sd rb db 1 = sd + rb from rfl, HR.out]; rfl, O.out, B.out⟩
                      case measure => simp [intOf]
                -- >>B
              · show Code.wp _ _ _ _ _
                -- <<C
                as_aux_lemma =>
                  have HS0 : Hid (sidesTo sd rb db 1 = sd + rb) := rfl
                  rw [HS0.out]
                  obtain ⟨s1, es1⟩ : ∃ s1, sd + rb = s1 := ⟨_, rfl⟩
                  rw [es1]
                  have hs1 : s1 ≤ 2 * k + 1 := by omega
                  have HS1 := Lib.hid es1
                  clear es1
                  obtain ⟨jv, ejv⟩ : ∃ jv : Nat, k + W = jv := ⟨_, rfl⟩
                  have HJ := Lib.hid ejv
                  have hjv : (k : Int) + (W : Int) = (jv : Int) := by omega
                  have hjN : jv ≤ N + N := by omega
                  clear ejv
                  by_cases hj : jv < N
                  · have eCj := CB.out wr B.out jv hj
                    have hji : ¬ (N : Int) ≤ (jv : Int) := by omega
                    cases hcj : cs.getD jv false
                    · have HR : Hid (db = 0) := by
                        rw [← HDB.out]
                        show b1 (dnN cs W N k) = 0
                        unfold dnN
                        rw [HJ.out, hcj]
                        simp [b1]
                      rw [hcj] at eCj
                      clear hcj
                      go_wp2
                      go_roundw
                      case rel => exact ⟨2, by omega, rfl, by rw [show sidesTo sd rb db 2 = sd + rb + db from rfl, HR.out, HS1.out]; rfl, O.out, B.out⟩
                      case measure => simp [intOf]
                    · have HR : Hid (db = 1) := by
                        rw [← HDB.out]
                        show b1 (dnN cs W N k) = 1
                        unfold dnN
                        rw [HJ.out, hcj]
                        simp [b1, hj]
                      have hmem : jv ∈ nbs W H k := by rw [← HJ.out]; exact dn_mem EN.out (by rw [HJ.out]; exact hj)
                      have hnr := time_near HNB.out HSYM.out HTK.out hlt hmem HC.out hcj
                      have hsd := HGK.out.side k hlt (by rw [HEG.out]; omega) jv hmem hcj
                      have eGj := CG.out wr B.out jv hj
                      have eTj := CT.out wr B.out jv hj
                      rw [hsd, HEG.out] at eGj
                      rw [HET.out] at hnr
                      have htl2 := time_le HTK.out hj
                      have hth2 := time_hi HTI.out hj
                      obtain ⟨tj, etj⟩ : ∃ tj, T.getD jv (-1) = tj := ⟨_, rfl⟩
                      rw [etj] at hnr eTj htl2 hth2
                      rw [hcj] at eCj
                      have p3 : decide (tj + 1 < ti) = false := by simp; omega
                      have p4 : decide (ti + 1 < tj) = false := by simp; omega
                      clear hmem hsd etj hcj
                      by_cases hneg : ti < 0
                      · have p1 : decide (ti < 0) = true := by simp; omega
                        have p2 : decide (tj < 0) = true := by simp; omega
                        clear hnr hneg
                        go_wp2
                        go_big_quiet (fail)
                        have B2 := Lib.hid (below_drewN' B.out nq)
                        have O2 : Hid ((World.drewN wr nq).ownsRow w8.heap.size 2 1 (.slice (some ⟨w8.heap.size, 0, none⟩) m m) m ((seenL cs G m (k + 1)).map iv)) := O.out
                        clear x0 x1 x2 eC eG eT eCj eGj eTj O B
                        generalize World.drewN wr nq = wv at *
                        go_wp2
                        go_roundw
                        case rel => exact ⟨2, by omega, rfl, by rw [show sidesTo sd rb db 2 = sd + rb + db from rfl, HR.out, HS1.out]; go_num, O2.out, B2.out⟩
                        case measure => simp [intOf]
                      · have p1 : decide (ti < 0) = false := by simp; omega
                        have p2 : decide (tj < 0) = false := by simp; omega
                        clear hnr hneg
                        go_wp2
                        go_big_quiet (fail)
                        have B2 := Lib.hid (below_drewN' B.out nq)
                        have O2 : Hid ((World.drewN wr nq).ownsRow w8.heap.size 2 1 (.slice (some ⟨w8.heap.size, 0, none⟩) m m) m ((seenL cs G m (k + 1)).map iv)) := O.out
                        clear x0 x1 x2 eC eG eT eCj eGj eTj O B
                        generalize World.drewN wr nq = wv at *
                        go_wp2
                        go_roundw
                        case rel => exact ⟨2, by omega, rfl, by rw [show sidesTo sd rb db 2 = sd + rb + db from rfl, HR.out, HS1.out]; go_num, O2.out, B2.out⟩
                        case measure => simp [intOf]
                  · have HR : Hid (db = 0) := by
                      rw [← HDB.out]
                      show b1 (dnN cs W N k) = 0
                      unfold dnN
                      rw [HJ.out]
                      simp [hj, b1]
                    have hji : (N : Int) ≤ (jv : Int) := by omega
                    go_wp2
                    go_roundw
                    case rel => exact ⟨2, by omega, rfl, by rw [show sidesTo sd rb db 2 = sd + rb + db from rfl, HR.out, HS1.out]; rfl, O.out, B.out⟩
                    case measure => simp [intOf]
                -- >>C
              · show Code.wp _ _ _ _ _
                -- <<D
                as_aux_lemma =>
                  have HS2 : Hid (sidesTo sd rb db 2 = sideN cs W N (k + 1)) := by
                    have h0 := HSI.out
                    simp at h0
                    show sd + rb + db = _
                    omega
                  rw [HS2.out]
                  have hsl2 := sideN_le cs W N (k + 1)
                  obtain ⟨s2, es2⟩ : ∃ s2, sideN cs W N (k + 1) = s2 := ⟨_, rfl⟩
                  rw [es2] at hsl2 ⊢
                  have HS3 := Lib.hid es2
                  have htop := HTK.out.top k hlt
                  rw [HET.out, HC.out] at htop
                  clear es2
                  have HMX : Hid (mostTo cs T (k + 1) = max mo ti) := by
                    have h0 := HMO.out
                    simp at h0
                    show mostTo cs T (k + 1) = max mo ti
                    rw [h0, Int.max_def]
                    split <;> split <;> omega
                  by_cases hkW : k < W
                  · have ht0 : ti = 0 := htop.2 ⟨hkW, rfl⟩
                    have hkw : (k : Int) < (W : Int) := by omega
                    rw [ht0] at eT HMX ⊢
                    clear htop
                    go_wp2
                    go_roundw
                    case rel => exact ⟨k + 1, by omega, by go_num, by rw [HS3.out], by rw [HMX.out], O.out, B.out⟩
                    case measure => simp [intOf]; omega
                  · have hkw : ¬ (k : Int) < (W : Int) := by omega
                    clear htop
                    go_wp2
                    go_roundw
                    case rel => exact ⟨k + 1, by omega, by go_num, by rw [HS3.out], by rw [HMX.out], O.out, B.out⟩
                    case measure => simp [intOf]; omega
                -- >>D
        · obtain rfl : N = k := by omega
          have HSA : Hid (seenL cs G m N = Z) := by
            have := seenL_all HGK.out
            rwa [HM.out] at this
          rw [HSA.out] at O
          have HML : Hid (mostTo cs T N = last) := mostTo_all HTK.out
          rw [HML.out]
          obtain ⟨sN, esN⟩ : ∃ sN, sideN cs W N N = sN := ⟨_, rfl⟩
          have hsN := sideN_le cs W N N
          rw [esN] at HNEAR hsN ⊢
          have HNI : Hid ((nn : Int) = 2 * (sN : Int)) := by
            have h0 := HNEAR.out
            show (nn : Int) = 2 * (sN : Int)
            omega
          rw [HNI.out]
          have hlastN : -1 ≤ last ∧ last ≤ (N : Int) := ⟨HTK.out.lo, by rw [← HML.out]; exact (mostTo_bd (by omega) (fun i hi => time_hi HTI.out hi)).2⟩
          have HPC := Lib.hid (path_cells hWN HNB.out HTD.out HTK.out HPL.out)
          clear hb hlt esN
          go_wp2
          go_loopw [283] (fun si wr => ∃ k : Nat, k ≤ m ∧ si = .int .i64 (k : Int) ∧
            Hid (wr.ownsRow w8.heap.size 2 1 (.slice (some ⟨w8.heap.size, 0, none⟩) m m) m (Z.map iv)) ∧ Below w8.heap.size w8 wr) (fun si _ => m - (intOf si).toNat)
          case atStart => exact ⟨0, Nat.zero_le _, rfl, O, B.out⟩
          case round =>
            clear O B x0 x1 x2
            obtain ⟨k, hk, rfl, O, hb⟩ := hrel
            have B := Lib.hid hb
            by_cases hlt : k < m
            · obtain ⟨bZ, oZ, rfl, hbZ, hcZ⟩ := Z8.out.2 (by omega)
              obtain ⟨z, hz⟩ : ∃ z, Z[k]? = some z := ⟨_, List.getElem?_eq_getElem (by rw [HM.out]; exact hlt)⟩
              have ez : wr.cell? ⟨bZ, oZ + k, none⟩ = some (.int .i64 z) := (hb.cell hbZ).trans (hcZ _ _ (by rw [List.getElem?_map, hz]; rfl))
              have es : wr.cell? ⟨w8.heap.size, k, none⟩ = some (.int .i64 z) := by
                rw [O.out.cellAt _ (by omega), List.getElem?_map, hz]
                rfl
              clear hcZ hz hb
              go_wp2
              go_big_quiet (fail)
              have B2 := Lib.hid (below_drewN' B.out nq)
              have O2 : Hid ((World.drewN wr nq).ownsRow w8.heap.size 2 1 (.slice (some ⟨w8.heap.size, 0, none⟩) m m) m (Z.map iv)) := O.out
              clear ez es O B
              generalize World.drewN wr nq = wv at *
              go_wp2
              go_roundw
              case rel => exact ⟨k + 1, by omega, by go_num, O2.out, B2.out⟩
              case measure => simp [intOf]; omega
            · obtain rfl : m = k := by omega
              clear O hb hlt
              go_wp2
              go_loopw [315] (fun si wr => ∃ k : Nat, k ≤ pl ∧ si = .int .i64 (k : Int) ∧ Below w8.heap.size w8 wr) (fun si _ => pl - (intOf si).toNat)
              case atStart => exact ⟨0, Nat.zero_le _, rfl, B.out⟩
              case round =>
                clear B
                obtain ⟨k, hk, rfl, hb⟩ := hrel
                have B := Lib.hid hb
                obtain ⟨x0, x1, x2⟩ := CF.out wr hb
                by_cases hlt : k < pl
                · obtain ⟨bP, oP, rfl, hbP, hcP⟩ := P8.out.2 (by omega)
                  obtain ⟨p, hp, hpN, hpT⟩ := HPC.out.1 k hlt
                  have ep : wr.cell? ⟨bP, oP + k, none⟩ = some (.int .i64 (p : Int)) := (hb.cell hbP).trans (hcP _ _ (by rw [List.getElem?_map, hp]; rfl))
                  have eT := CT.out wr hb p hpN
                  rw [hpT] at eT
                  obtain ⟨tk, etk⟩ : ∃ tk : Nat, pl - 1 - k = tk := ⟨_, rfl⟩
                  rw [etk] at eT
                  have hpk : (pl : Int) - 1 - (k : Int) = (tk : Int) := by omega
                  have r1 : decide ((p : Int) < 0) = false := decide_eq_false (by omega)
                  have r2 : decide (N ≤ p) = false := decide_eq_false (by omega)
                  clear hcP hp hpT etk hb
                  go_wp2
                  go_big_quiet (fail)
                  have B2 := Lib.hid (below_drewN' B.out nq)
                  clear ep eT x0 x1 x2 B
                  generalize World.drewN wr nq = wv at *
                  go_wp2
                  go_roundw
                  case rel => exact ⟨k + 1, by omega, by go_num, B2.out⟩
                  case measure => simp [intOf]; omega
                · obtain rfl : pl = k := by omega
                  clear hlt hk
                  by_cases hsp : 0 < sp
                  · obtain ⟨hpl0, p, hp, hpr, hpN⟩ := HPC.out.2.1 (by rw [HSP.out]; exact decide_eq_true hsp)
                    obtain ⟨p2, hp2, hp2W⟩ := HPC.out.2.2 hpl0
                    obtain ⟨bP, oP, rfl, hbP, hcP⟩ := P8.out.2 (by omega)
                    obtain ⟨pm, epm⟩ : ∃ pm, pl - 1 = pm := ⟨_, rfl⟩
                    rw [epm] at hp2
                    have ep : wr.cell? ⟨bP, oP, none⟩ = some (.int .i64 (p : Int)) := (hb.cell hbP).trans (hcP 0 _ (by rw [List.getElem?_map, hp]; rfl))
                    have ep2 : wr.cell? ⟨bP, oP + pm, none⟩ = some (.int .i64 (p2 : Int)) := (hb.cell hbP).trans (hcP _ _ (by rw [List.getElem?_map, hp2]; rfl))
                    have hpm : (pl : Int) - 1 = (pm : Int) := by omega
                    obtain ⟨R, hR, hRN⟩ : ∃ R : Nat, (W : Int) * ((H : Int) - 1) = (R : Int) ∧ R + W = N := by
                      refine ⟨W * (H - 1), by rw [Int.natCast_mul, Int.natCast_sub h3]; rfl, ?_⟩
                      have := EN.out
                      rw [← this, ← Nat.mul_succ]
                      congr 1
                      omega
                    have r1 : decide (R ≤ p) = true := decide_eq_true (by omega)
                    have r2 : decide (p2 < W) = true := decide_eq_true (by omega)
                    have r4 : decide (0 < pl) = true := decide_eq_true (by omega)
                    rw [decide_eq_true hsp]
                    have V9 := Lib.hid (V8.out.trans (B.out.mono V8.out.size))
                    clear hcP hp hp2 epm hb hsp B
                    go_wp2
                    go_big_quiet (fail)
                    have V10 := Lib.hid (below_drewN' V9.out nq)
                    clear ep ep2 x0 x1 x2
                    generalize World.drewN wr nq = wv at *
                    go_wp2
                    go_ret
                    exact ⟨rfl, V10.out⟩
                  · rw [decide_eq_false hsp]
                    have V9 := Lib.hid (V8.out.trans (B.out.mono V8.out.size))
                    clear hb hsp B
                    go_wp2
                    go_big_quiet (fail)
                    have V10 := Lib.hid (below_drewN' V9.out nq)
                    clear x0 x1 x2
                    generalize World.drewN wr nq = wv at *
                    go_wp2
                    go_ret
                    exact ⟨rfl, V10.out⟩
end Go.Proofs.Ytknonmfffcjonaa

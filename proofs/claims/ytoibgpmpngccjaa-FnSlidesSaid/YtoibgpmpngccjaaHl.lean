/- Walk: a drop, by the reference. Conditions: as it says. -/
import Derived.Test.YtoibgpmpngccjaaHp
namespace Go.Proofs.Ytoibgpmpngccjaa
open Go.RowKit
attribute [local go_sem] run_store_fl

theorem fv_get {H : List Nat} {k : Nat} (h : k < H.length) : (H.map fv)[k]? = some (.float .f32 (H.getD k 0)) := by
  rw [List.getElem?_map, List.getD_eq_getElem?_getD, List.getElem?_eq_getElem h]
  rfl
theorem best_take {H : List Nat} {a : Nat} {ks : List Nat} {j k : Nat} (h : ks[j]? = some k) : bestS H a (ks.take (j + 1)) = if ltF (H.getD k 0) (H.getD (bestS H a (ks.take j)) 0) then k else bestS H a (ks.take j) := by
  unfold bestS
  rw [List.take_add_one, h, List.foldl_append]
  rfl
theorem best_lt {W Hh : Nat} {H : List Nat} {a : Nat} (ha : a < W * Hh) (j : Nat) : bestS H a ((nbs W Hh a).take j) < W * Hh := by
  rcases best_mem H a ((nbs W Hh a).take j) with h | h
  · rw [h]; exact ha
  · exact nbs_lt ha (List.mem_of_mem_take h)
theorem set_map {H : List Nat} {a x : Nat} : (H.map fv).set a (.float .f32 x) = (H.set a x).map fv := by
  rw [List.map_set]
  rfl
theorem own_nat {w : World} {base g n c : Nat} {e : TypeId} {H : List Nat} {k : Nat} (h : w.ownsRow base e 1 (.slice (some ⟨g, 0, none⟩) n c) n (H.map fv)) (hk : k < H.length) (hn : H.length = n) : w.cell? ⟨g, k, none⟩ = some (.float .f32 (H.getD k 0)) := by
  rw [h.cellAt _ (by omega)]
  exact fv_get hk
theorem getD_set_self' {H : List Nat} {a x : Nat} (h : a < H.length) : (H.set a x).getD a 0 = x := by
  rw [List.getD_eq_getElem?_getD, List.getElem?_set_self h]
  rfl
set_option maxRecDepth 100000 in
set_option maxHeartbeats 8000000 in
theorem l05Drop_any (W Hh : Nat) (gr c g base a0 steps tk lv : Nat) (H0 : List Nat) (w : World) (hW : 1 ≤ W) (hW' : W ≤ 17) (hH : 1 ≤ Hh) (hH' : Hh ≤ 17) (hl : H0.length = W * Hh) (ha : a0 < W * Hh) (hst : steps ≤ 128)
    (hbk : Blk w g 26 #[.int .i64 (W : Int), .int .i64 (Hh : Int), .slice (some ⟨gr, 0, none⟩) (W * Hh) c]) (ho : w.ownsRow base 30 1 (.slice (some ⟨gr, 0, none⟩) (W * Hh) c) (W * Hh) (H0.map fv)) :
    Calls Try.prog 39 #[.pointer (some ⟨g, 0, none⟩), .int .i64 (a0 : Int), .int .i64 (steps : Int), .float .f32 tk, .float .f32 lv] w fun e w' => ∃ Hf m, e = .returned (.int .i64 ((m : Nat) : Int)) ∧ m ≤ steps ∧ Run (nxS W Hh) tk lv steps H0 a0 0 Hf m ∧
      w'.ownsRow base 30 1 (.slice (some ⟨gr, 0, none⟩) (W * Hh) c) (W * Hh) (Hf.map fv) ∧ w.grownBy w' (some gr) := by
  have hN : W * Hh ≤ 289 := by have := Nat.mul_le_mul hW' hH'; omega
  have BC := Lib.hid (fun a w' (ha : a < W * Hh) (hb : Blk w' g 26 #[.int .i64 (W : Int), .int .i64 (Hh : Int), .slice (some ⟨gr, 0, none⟩) (W * Hh) c]) => beside_any W Hh a w' hW hW' hH hH' ha g (W * Hh) c (some ⟨gr, 0, none⟩) hb)
  have BL := Lib.hid (fun H a j (ha : a < W * Hh) => best_lt (H := H) ha j)
  have NL := Lib.hid (fun H a low (ha : a < W * Hh) (h : nxS W Hh H a = some low) => nxS_lt ha h)
  obtain ⟨N, eN⟩ : ∃ N, W * Hh = N := ⟨_, rfl⟩
  rw [eN] at BC BL NL hl ha hbk ho hN
  have EN := Lib.hid eN
  have B0 := Lib.hid hbk
  have O0 := Lib.hid ho
  have HL0 := Lib.hid hl
  rw [eN]
  clear eN hbk ho hl
  go_enter Try.func39, Try.ntmps39
  go_wp2
  go_loopw [1, 11, 12] (fun sa sc sn wr => ∃ (a cr k : Nat) (H : List Nat), sa = .int .i64 (a : Int) ∧ sc = .float .f32 cr ∧ sn = .int .i64 (k : Int) ∧ k ≤ steps ∧ a < N ∧ Hid (H.length = N) ∧ Hid (∀ Hf m, Run (nxS W Hh) tk lv (steps - k) H a cr Hf m → Run (nxS W Hh) tk lv steps H0 a0 0 Hf (k + m)) ∧
    Hid (Blk wr g 26 #[.int .i64 (W : Int), .int .i64 (Hh : Int), .slice (some ⟨gr, 0, none⟩) N c]) ∧ Hid (wr.ownsRow base 30 1 (.slice (some ⟨gr, 0, none⟩) N c) N (H.map fv)) ∧ Hid (w.grownBy wr (some gr))) (fun _ _ sn _ => steps - (intOf sn).toNat)
  case atStart => exact ⟨a0, 0, 0, H0, rfl, rfl, rfl, Nat.zero_le _, ha, HL0.out, fun Hf m h => by rw [Nat.zero_add]; exact h, B0.out, O0.out, World.grownBy.refl _ _⟩
  case round =>
    clear B0 O0
    obtain ⟨a, cr, k, H, rfl, rfl, rfl, hk, haN, HL, HR, B, O, G⟩ := hrel
    have hcN : N ≤ c := by
      rcases O.out.2 with ⟨h', _⟩ | ⟨g', cap, cur, hv, _⟩
      · simp at h'
      · rename_i hh
        injection hv with _ _ h3
        omega
    by_cases hlt : k < steps
    · have BC1 := Lib.hid (BC.out a wr haN B.out)
      have hkn : (k : Int) < (steps : Int) := by omega
      go_wp2_with fail
      refine BC1.out.mono ?_
      rintro e w2 ⟨A2, n2, c2, rfl, ho2, hb2⟩
      have B2 := Lib.hid (B.out.below hb2 B.out.lt)
      have O2 := Lib.hid (own_below O.out hb2)
      have G2 := Lib.hid (grown_trans' G.out (grown_of_below hb2 (some gr)))
      have hkl : (nbs W Hh a).length = n2 := by have := ho2.1; simpa using this
      have R2 := Lib.hid (Rd.own ho2)
      have NB := Lib.hid (fun j k (h : (nbs W Hh a)[j]? = some k) => (nbs_lt (by rw [EN.out]; exact haN) (List.mem_of_getElem? h) : k < W * Hh))
      have BT := Lib.hid (fun j k (h : (nbs W Hh a)[j]? = some k) => best_take (H := H) (a := a) h)
      have BLA := Lib.hid (fun j => BL.out H a j haN)
      have hn4 : n2 ≤ 1000000 := by
        rw [← hkl]
        unfold nbs nb1 nb2 nb3 nb4
        simp only [List.length_append]
        split <;> split <;> split <;> split <;> simp
      have HNX : Hid (nxS W Hh H a = if bestS H a (nbs W Hh a) = a then none else some (bestS H a (nbs W Hh a))) := rfl
      rw [EN.out] at NB
      obtain ⟨ks, eks⟩ : ∃ ks, nbs W Hh a = ks := ⟨_, rfl⟩
      rw [eks] at hkl R2 NB BT BLA HNX
      have HKL := Lib.hid hkl
      clear hb2 ho2 hkl eks BC1 O B G
      go_wp2
      go_loopw [14, 27] (fun sb si wr => ∃ j m : Nat, j ≤ n2 ∧ si = .int .i64 (j : Int) ∧ sb = .int .i64 ((bestS H a (ks.take j) : Nat) : Int) ∧ wr = w2.drewN m) (fun _ si _ => n2 - (intOf si).toNat)
      case atStart => exact ⟨0, 0, Nat.zero_le _, rfl, rfl, rfl⟩
      case round =>
        obtain ⟨j, m, hj, rfl, rfl, hwq⟩ := hrel
        have HWQ := Lib.hid hwq
        by_cases hjn : j < n2
        · obtain ⟨b2, off2, rfl, hbb, hc⟩ := R2.out.2 (by omega)
          obtain ⟨q, hq⟩ : ∃ q, ks[j]? = some q := ⟨_, List.getElem?_eq_getElem (by rw [HKL.out]; exact hjn)⟩
          have e0 : wr.cell? ⟨b2, off2 + j, none⟩ = some (.int .i64 (q : Int)) := by rw [hwq]; exact hc _ _ (by rw [List.getElem?_map, hq]; rfl)
          have hqN := NB.out j q hq
          have hbN := BLA.out j
          have HBT := Lib.hid (BT.out j q hq)
          obtain ⟨b, hb⟩ : ∃ b, bestS H a (ks.take j) = b := ⟨_, rfl⟩
          rw [hb] at hbN HBT ⊢
          have e1 : wr.cell? ⟨g, 2, none⟩ = some (.slice (some ⟨gr, 0, none⟩) N c) := by rw [hwq]; exact B2.out.cell 2
          have e2 : wr.cell? ⟨gr, q, none⟩ = some (.float .f32 (H.getD q 0)) := by rw [hwq]; exact own_nat O2.out (by rw [HL.out]; exact hqN) HL.out
          have e3 : wr.cell? ⟨gr, b, none⟩ = some (.float .f32 (H.getD b 0)) := by rw [hwq]; exact own_nat O2.out (by rw [HL.out]; exact hbN) HL.out
          have hji : (j : Int) < (n2 : Int) := by omega
          have hqi : (q : Int) < (N : Int) := by omega
          have hbi : (b : Int) < (N : Int) := by omega
          unfold ltF at HBT
          obtain ⟨x, hx⟩ : ∃ x, H.getD q 0 = x := ⟨_, rfl⟩
          obtain ⟨y, hy⟩ : ∃ y, H.getD b 0 = y := ⟨_, rfl⟩
          rw [hx] at e2 HBT
          rw [hy] at e3 HBT
          clear hwq hc hq hb hx hy
          cases ho : (FloatKind.f32.format.order x y == some Ordering.lt)
          · rw [ho] at HBT
            go_wp2
            go_quiet (fail)
            go_wp2
            go_roundw
            case rel => exact ⟨j + 1, _, by omega, by go_num, by rw [HBT.out]; rfl, by rw [HWQ.out]; exact World.drewN_drewN _ _ _⟩
            case measure => simp [intOf]; omega
          · rw [ho] at HBT
            go_wp2
            go_quiet (fail)
            go_wp2
            go_roundw
            case rel => exact ⟨j + 1, _, by omega, by go_num, by rw [HBT.out]; rfl, by rw [HWQ.out]; exact World.drewN_drewN _ _ _⟩
            case measure => simp [intOf]; omega
        · obtain rfl : j = n2 := by omega
          have HT : Hid (ks.take j = ks) := List.take_of_length_le (by rw [HKL.out]; exact Nat.le_refl _)
          rw [HT.out]
          have hbN := BLA.out j
          rw [HT.out] at hbN
          have BQ : Hid (Blk wr g 26 #[.int .i64 (W : Int), .int .i64 (Hh : Int), .slice (some ⟨gr, 0, none⟩) N c]) := by rw [hwq]; exact B2.out.drewN m
          have OQ : Hid (wr.ownsRow base 30 1 (.slice (some ⟨gr, 0, none⟩) N c) N (H.map fv)) := by rw [hwq]; exact O2.out
          have GQ : Hid (w.grownBy wr (some gr)) := by rw [hwq]; exact ⟨G2.out.os, G2.out.tape, G2.out.output, G2.out.size, G2.out.block⟩
          obtain ⟨b, hb⟩ : ∃ b, bestS H a ks = b := ⟨_, rfl⟩
          rw [hb] at hbN HNX ⊢
          clear hwq HWQ B2 O2 G2 R2 NB BT BLA HKL hb HT
          have e1 : wr.cell? ⟨g, 2, none⟩ = some (.slice (some ⟨gr, 0, none⟩) N c) := BQ.out.cell 2
          have e2 : wr.cell? ⟨gr, a, none⟩ = some (.float .f32 (H.getD a 0)) := own_nat OQ.out (by rw [HL.out]; exact haN) HL.out
          have hai : (a : Int) < (N : Int) := by omega
          by_cases hba : b = a
          · have HN : Hid (nxS W Hh H a = none) := by rw [HNX.out, if_pos hba]; rfl
            have hab := hba.symm
            clear hba
            subst hab
            go_wp2
            refine wp_region_lo 15 (by kernel_rfl) (by kernel_rfl) ?_
            simp only [List.take_succ_cons, List.take_zero, List.drop_succ_cons, List.drop_zero]
            iterate 13 (refine lo_still (fun K hK => ?_); go_simp; refine hK _ ?_; clear hK K)
            refine lo_float rfl .add (by simp) _ _ _ _ rfl (H.getD a 0) cr rfl rfl ?_
            intro r hr hlr
            iterate 1 (refine lo_still (fun K hK => ?_); go_simp; refine hK _ ?_; clear hK K)
            refine wpLo_nil ?_
            intro m9
            have O9 : Hid ((World.drewN wr m9).ownsRow base 30 1 (.slice (some ⟨gr, 0, none⟩) N c) N (H.map fv)) := OQ.out
            have G9 : Hid (w.grownBy (World.drewN wr m9) (some gr)) := ⟨GQ.out.os, GQ.out.tape, GQ.out.output, GQ.out.size, GQ.out.block⟩
            have HRUN := Lib.hid (HR.out _ _ (Run.stop (r := r) (.inr HN.out) hr))
            clear e1 e2 hr
            generalize World.drewN wr m9 = w9 at *
            have eA : w9.cell? ⟨gr, a, none⟩ = some (.float .f32 (H.getD a 0)) := own_nat O9.out (by rw [HL.out]; exact haN) HL.out
            have fA : w9.frozen? ⟨gr, a, none⟩ = false := O9.out.frozenAt _
            obtain ⟨ho9, hg9⟩ := O9.out.stored a (.float .f32 r)
            rw [set_map] at ho9
            have HO9 := Lib.hid ho9
            have HG9 := Lib.hid (grown_trans' G9.out hg9)
            clear ho9 hg9
            go_wp2
            go_ret
            exact ⟨H.set a r, k, rfl, hk, HRUN.out, HO9.out, HG9.out⟩
          · have HN : Hid (nxS W Hh H a = some b) := by rw [HNX.out, if_neg hba]; rfl
            have e3 : wr.cell? ⟨gr, b, none⟩ = some (.float .f32 (H.getD b 0)) := own_nat OQ.out (by rw [HL.out]; exact hbN) HL.out
            have hbi : (b : Int) < (N : Int) := by omega
            have hbai : ((b : Int) == (a : Int)) = false := by rw [beq_eq_false_iff_ne]; omega
            clear hba
            go_wp2
            refine wp_region_lo 16 (by kernel_rfl) (by kernel_rfl) ?_
            simp only [List.take_succ_cons, List.take_zero, List.drop_succ_cons, List.drop_zero]
            iterate 15 (refine lo_still (fun K hK => ?_); go_simp; refine hK _ ?_; clear hK K)
            refine lo_float rfl .sub (by simp) _ _ _ _ rfl (H.getD a 0) (H.getD b 0) rfl rfl ?_
            intro d hd hld
            refine wpLo_nil ?_
            intro m4
            have B4 : Hid (Blk (World.drewN wr m4) g 26 #[.int .i64 (W : Int), .int .i64 (Hh : Int), .slice (some ⟨gr, 0, none⟩) N c]) := BQ.out.drewN _
            have O4 : Hid ((World.drewN wr m4).ownsRow base 30 1 (.slice (some ⟨gr, 0, none⟩) N c) N ((H).map fv)) := OQ.out
            have G4 : Hid (w.grownBy (World.drewN wr m4) (some gr)) := ⟨GQ.out.os, GQ.out.tape, GQ.out.output, GQ.out.size, GQ.out.block⟩
            clear e1 e2 e3 BQ OQ GQ
            generalize World.drewN wr m4 = w4 at *
            go_wp2_with (first
              | (refine wpList_float rfl .mul (by simp) _ _ _ _ rfl tk d rfl rfl ?_; intro t m5 ht hlt5
                 have B5 : Hid (Blk (World.drewN w4 m5) g 26 #[.int .i64 (W : Int), .int .i64 (Hh : Int), .slice (some ⟨gr, 0, none⟩) N c]) := B4.out.drewN _
                 have O5 : Hid ((World.drewN w4 m5).ownsRow base 30 1 (.slice (some ⟨gr, 0, none⟩) N c) N ((H).map fv)) := O4.out
                 have G5 : Hid (w.grownBy (World.drewN w4 m5) (some gr)) := ⟨G4.out.os, G4.out.tape, G4.out.output, G4.out.size, G4.out.block⟩
                 clear B4 O4 G4
                 generalize World.drewN w4 m5 = w5 at *
                 have e1 : w5.cell? ⟨g, 2, none⟩ = some (.slice (some ⟨gr, 0, none⟩) N c) := B5.out.cell 2
                 have e2 : w5.cell? ⟨gr, a, none⟩ = some (.float .f32 (H.getD a 0)) := own_nat O5.out (by rw [HL.out]; exact haN) HL.out)
              | fail)
            refine wp_region_lo 15 (by kernel_rfl) (by kernel_rfl) ?_
            simp only [List.take_succ_cons, List.take_zero, List.drop_succ_cons, List.drop_zero]
            iterate 13 (refine lo_still (fun K hK => ?_); go_simp; refine hK _ ?_; clear hK K)
            refine lo_float rfl .sub (by simp) _ _ _ _ rfl (H.getD a 0) t rfl rfl ?_
            intro h1 hh1 hlh1
            iterate 1 (refine lo_still (fun K hK => ?_); go_simp; refine hK _ ?_; clear hK K)
            refine wpLo_nil ?_
            intro m6
            have B6 : Hid (Blk (World.drewN w5 m6) g 26 #[.int .i64 (W : Int), .int .i64 (Hh : Int), .slice (some ⟨gr, 0, none⟩) N c]) := B5.out.drewN _
            have O6 : Hid ((World.drewN w5 m6).ownsRow base 30 1 (.slice (some ⟨gr, 0, none⟩) N c) N ((H).map fv)) := O5.out
            have G6 : Hid (w.grownBy (World.drewN w5 m6) (some gr)) := ⟨G5.out.os, G5.out.tape, G5.out.output, G5.out.size, G5.out.block⟩
            clear e1 e2 B5 O5 G5
            generalize World.drewN w5 m6 = w6 at *
            have eA : w6.cell? ⟨gr, a, none⟩ = some (.float .f32 (H.getD a 0)) := own_nat O6.out (by rw [HL.out]; exact haN) HL.out
            have fA : w6.frozen? ⟨gr, a, none⟩ = false := O6.out.frozenAt _
            obtain ⟨ho7, hg7⟩ := O6.out.stored a (.float .f32 h1)
            rw [set_map] at ho7
            have O7 := Lib.hid ho7
            have B7 := Lib.hid (B6.out.grown hg7 (own_blk_ne O6.out B6.out (by decide)))
            have G7 := Lib.hid (grown_trans' G6.out hg7)
            clear ho7 hg7 B6 O6 G6
            go_wp2_with (first
              | (refine wpList_float rfl .add (by simp) _ _ _ _ rfl cr t rfl rfl ?_; intro c1 m8 hc1 hlt8
                 have B8 : Hid (Blk (World.drewN (w6.setCell ⟨gr, a, none⟩ (.float .f32 h1)) m8) g 26 #[.int .i64 (W : Int), .int .i64 (Hh : Int), .slice (some ⟨gr, 0, none⟩) N c]) := B7.out.drewN _
                 have O8 : Hid ((World.drewN (w6.setCell ⟨gr, a, none⟩ (.float .f32 h1)) m8).ownsRow base 30 1 (.slice (some ⟨gr, 0, none⟩) N c) N ((H.set a h1).map fv)) := O7.out
                 have G8 : Hid (w.grownBy (World.drewN (w6.setCell ⟨gr, a, none⟩ (.float .f32 h1)) m8) (some gr)) := ⟨G7.out.os, G7.out.tape, G7.out.output, G7.out.size, G7.out.block⟩
                 clear B7 O7 G7 eA fA
                 generalize World.drewN (w6.setCell ⟨gr, a, none⟩ (.float .f32 h1)) m8 = w8 at *)
              | (refine wpList_float rfl .mul (by simp) _ _ _ _ rfl lv c1 rfl rfl ?_; intro l m9 hl9 hlt9
                 have B9 : Hid (Blk (World.drewN w8 m9) g 26 #[.int .i64 (W : Int), .int .i64 (Hh : Int), .slice (some ⟨gr, 0, none⟩) N c]) := B8.out.drewN _
                 have O9 : Hid ((World.drewN w8 m9).ownsRow base 30 1 (.slice (some ⟨gr, 0, none⟩) N c) N ((H.set a h1).map fv)) := O8.out
                 have G9 : Hid (w.grownBy (World.drewN w8 m9) (some gr)) := ⟨G8.out.os, G8.out.tape, G8.out.output, G8.out.size, G8.out.block⟩
                 clear B8 O8 G8
                 generalize World.drewN w8 m9 = w9 at *
                 have e1 : w9.cell? ⟨g, 2, none⟩ = some (.slice (some ⟨gr, 0, none⟩) N c) := B9.out.cell 2
                 have e2 : w9.cell? ⟨gr, a, none⟩ = some (.float .f32 h1) := by
                   have := own_nat (k := a) O9.out (by rw [List.length_set, HL.out]; exact haN) (by rw [List.length_set]; exact HL.out)
                   rwa [getD_set_self' (by rw [HL.out]; exact haN)] at this)
              | fail)
            refine wp_region_lo 15 (by kernel_rfl) (by kernel_rfl) ?_
            simp only [List.take_succ_cons, List.take_zero, List.drop_succ_cons, List.drop_zero]
            iterate 13 (refine lo_still (fun K hK => ?_); go_simp; refine hK _ ?_; clear hK K)
            refine lo_float rfl .add (by simp) _ _ _ _ rfl h1 l rfl rfl ?_
            intro h2 hh2 hlh2
            iterate 1 (refine lo_still (fun K hK => ?_); go_simp; refine hK _ ?_; clear hK K)
            refine wpLo_nil ?_
            intro m10
            have B10 : Hid (Blk (World.drewN w9 m10) g 26 #[.int .i64 (W : Int), .int .i64 (Hh : Int), .slice (some ⟨gr, 0, none⟩) N c]) := B9.out.drewN _
            have O10 : Hid ((World.drewN w9 m10).ownsRow base 30 1 (.slice (some ⟨gr, 0, none⟩) N c) N ((H.set a h1).map fv)) := O9.out
            have G10 : Hid (w.grownBy (World.drewN w9 m10) (some gr)) := ⟨G9.out.os, G9.out.tape, G9.out.output, G9.out.size, G9.out.block⟩
            have eA0 : (World.drewN w9 m10).cell? ⟨gr, a, none⟩ = some (.float .f32 h1) := e2
            clear e1 e2 B9 O9 G9
            generalize World.drewN w9 m10 = w10 at *
            have fA0 : w10.frozen? ⟨gr, a, none⟩ = false := O10.out.frozenAt _
            obtain ⟨ho11, hg11⟩ := O10.out.stored a (.float .f32 h2)
            rw [set_map, List.set_set] at ho11
            have O11 := Lib.hid ho11
            have B11 := Lib.hid (B10.out.grown hg11 (own_blk_ne O10.out B10.out (by decide)))
            have G11 := Lib.hid (grown_trans' G10.out hg11)
            clear ho11 hg11 B10 O10 G10
            go_wp2_with (first
              | (refine wpList_float rfl .sub (by simp) _ _ _ _ rfl c1 l rfl rfl ?_; intro c2 m12 hc2 hlt12
                 have B12 : Hid (Blk (World.drewN (w10.setCell ⟨gr, a, none⟩ (.float .f32 h2)) m12) g 26 #[.int .i64 (W : Int), .int .i64 (Hh : Int), .slice (some ⟨gr, 0, none⟩) N c]) := B11.out.drewN _
                 have O12 : Hid ((World.drewN (w10.setCell ⟨gr, a, none⟩ (.float .f32 h2)) m12).ownsRow base 30 1 (.slice (some ⟨gr, 0, none⟩) N c) N ((H.set a h2).map fv)) := O11.out
                 have G12 : Hid (w.grownBy (World.drewN (w10.setCell ⟨gr, a, none⟩ (.float .f32 h2)) m12) (some gr)) := ⟨G11.out.os, G11.out.tape, G11.out.output, G11.out.size, G11.out.block⟩
                 clear B11 O11 G11 eA0 fA0
                 generalize World.drewN (w10.setCell ⟨gr, a, none⟩ (.float .f32 h2)) m12 = w12 at *)
              | fail)
            have HST : Hid (StepR tk lv H a b cr (H.set a h2) c2) := ⟨d, t, h1, c1, l, h2, hd, ht, hh1, hc1, hl9, hh2, hc2, rfl⟩
            have HR2 : Hid (∀ Hf m, Run (nxS W Hh) tk lv (steps - (k + 1)) (H.set a h2) b c2 Hf m → Run (nxS W Hh) tk lv steps H0 a0 0 Hf (k + 1 + m)) := fun Hf m hrun => by
              have := Run.step HN.out HST.out hrun
              rw [show steps - (k + 1) + 1 = steps - k by omega] at this
              have := HR.out _ _ this
              rwa [show k + (m + 1) = k + 1 + m by omega] at this
            have HL2 : Hid ((H.set a h2).length = N) := by unfold Hid; rw [List.length_set]; exact HL.out
            clear hd ht hh1 hc1 hl9 hh2 hc2
            go_roundw
            case rel => exact ⟨b, c2, k + 1, H.set a h2, rfl, rfl, by go_num, by omega, hbN, HL2, HR2, B12, O12, G12⟩
            case measure => simp [intOf]; omega
    · obtain rfl : k = steps := by omega
      have OQ := O
      have GQ := G
      have e1 : wr.cell? ⟨g, 2, none⟩ = some (.slice (some ⟨gr, 0, none⟩) N c) := B.out.cell 2
      have e2 : wr.cell? ⟨gr, a, none⟩ = some (.float .f32 (H.getD a 0)) := own_nat OQ.out (by rw [HL.out]; exact haN) HL.out
      have hai : (a : Int) < (N : Int) := by omega
      clear O G
      go_wp2
      refine wp_region_lo 15 (by kernel_rfl) (by kernel_rfl) ?_
      simp only [List.take_succ_cons, List.take_zero, List.drop_succ_cons, List.drop_zero]
      iterate 13 (refine lo_still (fun K hK => ?_); go_simp; refine hK _ ?_; clear hK K)
      refine lo_float rfl .add (by simp) _ _ _ _ rfl (H.getD a 0) cr rfl rfl ?_
      intro r hr hlr
      iterate 1 (refine lo_still (fun K hK => ?_); go_simp; refine hK _ ?_; clear hK K)
      refine wpLo_nil ?_
      intro m9
      have O9 : Hid ((World.drewN wr m9).ownsRow base 30 1 (.slice (some ⟨gr, 0, none⟩) N c) N (H.map fv)) := OQ.out
      have G9 : Hid (w.grownBy (World.drewN wr m9) (some gr)) := ⟨GQ.out.os, GQ.out.tape, GQ.out.output, GQ.out.size, GQ.out.block⟩
      have HRUN := Lib.hid (HR.out _ _ (Run.stop (r := r) (.inl (by omega)) hr))
      clear e1 e2 hr
      generalize World.drewN wr m9 = w9 at *
      have eA : w9.cell? ⟨gr, a, none⟩ = some (.float .f32 (H.getD a 0)) := own_nat O9.out (by rw [HL.out]; exact haN) HL.out
      have fA : w9.frozen? ⟨gr, a, none⟩ = false := O9.out.frozenAt _
      obtain ⟨ho9, hg9⟩ := O9.out.stored a (.float .f32 r)
      rw [set_map] at ho9
      have HO9 := Lib.hid ho9
      have HG9 := Lib.hid (grown_trans' G9.out hg9)
      clear ho9 hg9
      go_wp2
      go_ret
      exact ⟨H.set a r, k, rfl, hk, HRUN.out, HO9.out, HG9.out⟩
end Go.Proofs.Ytoibgpmpngccjaa

/- Walks: the least weight up to which cells lead down, by the reference. Conditions: fewer than 2^63 weights. -/
import Derived.Test.YtbkacmklgkgamaaVq
import Derived.Test.YtbkacmklgkgamaaVp
import Derived.Test.YtbkacmklgkgamaaHk
import Derived.Test.YtbkacmklgkgamaaHd
import Derived.Test.YtbkacmklgkgamaaSi
import Derived.Test.YtbkacmklgkgamaaIo
namespace Go.Proofs.Ytbkacmklgkgamaa
open Go.RowKit

theorem bestTo_lt {xs : List Nat} {P : Int → Prop} {k j : Nat} (h : BestTo xs P k (some j)) : j < k := h.1
def bestI : Option Nat → Int
  | none => -1
  | some j => (j : Int)
theorem areW_nat {wd hi : Int} {n : Nat} {xs : List Nat} (h : areW wd hi n xs = true) : ∃ W H : Nat, wd = (W : Int) ∧ hi = (H : Int) ∧ 1 ≤ W ∧ W ≤ 16 ∧ 1 ≤ H ∧ H ≤ 16 ∧ W * H = n ∧ validB wd hi n = true ∧ xs.all finW = true := by
  unfold areW at h
  rw [Bool.and_eq_true] at h
  have h1 := h.1
  unfold validB at h1
  simp only [decide_eq_true_eq] at h1
  obtain ⟨W, eW⟩ : ∃ W : Nat, wd = (W : Int) := ⟨wd.toNat, by omega⟩
  obtain ⟨H, eH⟩ : ∃ H : Nat, hi = (H : Int) := ⟨hi.toNat, by omega⟩
  refine ⟨W, H, eW, eH, by omega, by omega, by omega, by omega, ?_, h.1, h.2⟩
  have h2 := h1.2.2.2.2
  rw [eW, eH] at h2
  exact_mod_cast h2.symm
theorem fin_at {xs : List Nat} (h : xs.all finW = true) {i : Nat} (hi : i < xs.length) : finW (xs.getD i 0) = true := by
  rw [List.all_eq_true] at h
  rw [List.getD_eq_getElem?_getD, List.getElem?_eq_getElem hi]
  exact h _ (List.getElem_mem hi)
theorem get_getD {xs : List Nat} {i : Nat} (h : i < xs.length) : xs[i]? = some (xs.getD i 0) := by
  rw [List.getD_eq_getElem?_getD, List.getElem?_eq_getElem h]; rfl
theorem rd_cellF {w : World} {B n b off : Nat} {xs : List Nat} (h : ∀ j u, (xs.map fv)[j]? = some u → w.cell? ⟨b, off + j, none⟩ = some u) {i : Nat} (hi : i < xs.length) : w.cell? ⟨b, off + i, none⟩ = some (.float .f32 (xs.getD i 0)) :=
  h _ _ (by rw [List.getElem?_map, get_getD hi]; rfl)
theorem own_alloc' {w : World} {base : Nat} {e : TypeId} {size : Nat} {v : Value} {n : Nat} {xs : List Value} (h : w.ownsRow base e size v n xs) (o : Obj) : (w.drew.alloc o).ownsRow base e size v n xs := World.ownsRow.alloc (show w.drew.ownsRow base e size v n xs from h) o
set_option maxRecDepth 100000 in
set_option maxHeartbeats 400000 in
theorem specThr_no (wd hi : Int) (A : Option Addr) (n c : Nat) (xs : List Nat) (w : World) (hn : n ≤ maxLen) (hA : Rd w w.heap.size 1 A n (xs.map fv)) (h : areW wd hi n xs = false) :
    Calls Try.prog 21 #[.slice A n c, .int .i64 wd, .int .i64 hi] w fun e w' => e = .returned (.tuple #[.float .f32 0, .bool false]) ∧ Below w.heap.size w w' := by
  have WC := Lib.hid (l07Weights_any wd hi A n c w.heap.size xs w hn hA)
  rw [h] at WC
  clear hA h
  go_enter Try.func21, Try.ntmps21
  go_wp2_with fail
  refine WC.out.mono ?_
  rintro e w1 ⟨rfl, m, hw⟩
  have HW : Hid (Below w.heap.size w w1) := hw ▸ below_drewN (Below.refl _ _) m
  clear hw
  go_wp2
  go_ret2
  exact ⟨rfl, HW.out⟩
set_option maxRecDepth 100000 in
set_option maxHeartbeats 4000000 in
theorem specThr_ok (W H N : Nat) (A : Option Addr) (c : Nat) (xs : List Nat) (w : World) (hW : 1 ≤ W) (hW' : W ≤ 16) (hH : 1 ≤ H) (hH' : H ≤ 16) (hl : xs.length = N) (hP : W * H = N) (h : areW W H N xs = true) (hA : Rd w w.heap.size 1 A N (xs.map fv)) :
    Calls Try.prog 21 #[.slice A N c, .int .i64 (W : Int), .int .i64 (H : Int)] w fun e w' => ∃ j, BestTo xs (fun v => SBp (cutB xs v) W N (nbs W H)) N (some j) ∧ e = .returned (.tuple #[.float .f32 (xs.getD j 0), .bool true]) ∧ Below w.heap.size w w' := by
  have hN256 : N ≤ 256 := by have := Nat.mul_le_mul hW' hH'; omega
  have hN1 : 1 ≤ N := by rw [← hP]; exact Nat.mul_pos hW hH
  have hWN : W ≤ N := by rw [← hP]; exact Nat.le_mul_of_pos_right W hH
  obtain ⟨i0, hi0, hz0, hz1, hz2⟩ := info_parts boolInfo
  have WC := Lib.hid (l07Weights_any W H A N c w.heap.size xs w (by unfold maxLen; omega) hA)
  have HFN : Hid (xs.all finW = true) := by unfold areW at h; rw [Bool.and_eq_true] at h; exact h.2
  rw [h] at WC
  obtain ⟨b, off, rfl, hbb, hc⟩ := hA.2 (by omega)
  have HC := Lib.hid hc
  have HL := Lib.hid hl
  have HP := Lib.hid hP
  obtain ⟨P, eP⟩ : ∃ P : Int → Prop, P = fun v => SBp (cutB xs v) W N (nbs W H) := ⟨_, rfl⟩
  have HEP := Lib.hid eP
  have B0 : Hid (BestTo xs P 0 none) := fun i hi => absurd hi (by omega)
  have HEX : Hid (∃ k < N, P (fval (xs.getD k 0))) := by
    have := some_spans (xs := xs) hW hH (hl.trans hP.symm)
    rw [hP, hl] at this
    rw [eP]
    exact this
  rw [← eP]
  clear hA h hc hl hP eP
  go_enter Try.func21, Try.ntmps21
  go_wp2_with fail
  refine WC.out.mono ?_
  rintro e w1 ⟨rfl, m, hw⟩
  have HW1 : Hid (Below w.heap.size w w1) := hw ▸ below_drewN (Below.refl _ _) m
  clear hw
  go_wp2
  go_loopw [8, 19] (fun sb sk wr => ∃ (k : Nat) (bo : Option Nat), k ≤ N ∧ sk = .int .i64 (k : Int) ∧ sb = .int .i64 (bestI bo) ∧ Hid (BestTo xs P k bo) ∧ Hid (Below w.heap.size w wr)) (fun _ sk _ => N - (intOf sk).toNat)
  case atStart => exact ⟨0, none, Nat.zero_le _, rfl, rfl, B0, HW1⟩
  case round =>
    clear B0 HW1
    obtain ⟨k, bo, hk, rfl, rfl, HB, HV⟩ := hrel
    obtain ⟨wo, hwo⟩ : ∃ x, x = wr := ⟨_, rfl⟩
    subst hwo
    have hszo := HV.out.size
    by_cases hkN : k < N
    · have hki : (k : Int) < (N : Int) := by omega
      obtain ⟨v, ev⟩ : ∃ v, fval (xs.getD k 0) = v := ⟨_, rfl⟩
      have HEV := Lib.hid ev
      clear ev
      go_wp2_with (first
        | (refine wpList_store_blk rfl _ _ _ rfl wo.heap.size 0 rfl _ rfl [.int .i64 (W : Int), .int .i64 (H : Int), .slice none 0 0] rfl 31 #[.int .i64 0, .int .i64 0, .slice none 0 0] #[.int .i64 (W : Int), .int .i64 (H : Int), .slice none 0 0] (Blk.new _ _ _) (by kernel_rfl) (by simp) (by simp [Value.oneCell']) rfl ?_; intro w2 X2 g2)
        | fail)
      have HX2 := Lib.hid X2
      have HV2 := Lib.hid (below_boxed HV.out hszo g2)
      have hz2' := g2.size
      simp only [World.size_alloc] at hz2'
      clear X2 g2
      go_loopw [27] (fun si wr => ∃ (i : Nat) (Ac : Option Addr) (cc : Nat), si = .int .i64 (i : Int) ∧ i ≤ N ∧ Hid (Blk wr wo.heap.size 31 #[.int .i64 (W : Int), .int .i64 (H : Int), .slice Ac i cc]) ∧
          Hid (wr.ownsRow w.heap.size 4 1 (.slice Ac i cc) i ((cutB (xs.take i) v).map bv)) ∧ Hid (Below w.heap.size w wr) ∧ wo.heap.size < wr.heap.size) (fun si _ => N - (intOf si).toNat)
      case atStart => exact ⟨0, none, 0, rfl, Nat.zero_le _, HX2, World.ownsRow_nil _ _ _ _, HV2, HX2.out.lt⟩
      case round =>
        clear HX2 HV2
        obtain ⟨i, Ac, cc, rfl, hi, X, O, V, hzr⟩ := hrel
        obtain ⟨wi, hwi⟩ : ∃ x, x = wr := ⟨_, rfl⟩
        subst hwi
        have hszi := V.out.size
        by_cases hiN : i < N
        · have hii : (i : Int) < (N : Int) := by omega
          have hiL : i < xs.length := by rw [HL.out]; exact hiN
          have hkL : k < xs.length := by rw [HL.out]; exact hkN
          have cx : wi.cell? ⟨b, off + i, none⟩ = some (.float .f32 (xs.getD i 0)) := (V.out.cell hbb).trans (rd_cellF (B := 0) (n := 0) HC.out hiL)
          have cy : wi.cell? ⟨b, off + k, none⟩ = some (.float .f32 (xs.getD k 0)) := (V.out.cell hbb).trans (rd_cellF (B := 0) (n := 0) HC.out hkL)
          have d2 : wi.cell? ⟨wo.heap.size, 2, none⟩ = some (.slice Ac i cc) := X.out.cell 2
          have hle := ord_le (fin_at HFN.out hiL) (fin_at HFN.out hkL)
          have hnext := cutB_take xs v i (get_getD hiL)
          rw [HEV.out] at hle
          obtain ⟨q, hq⟩ : ∃ q, decide (fval (xs.getD i 0) ≤ v) = q := ⟨_, rfl⟩
          rw [hq] at hle hnext
          have NX := Lib.hid hnext
          obtain ⟨x, hx⟩ : ∃ x, xs.getD i 0 = x := ⟨_, rfl⟩
          obtain ⟨y, hy⟩ : ∃ y, xs.getD k 0 = y := ⟨_, rfl⟩
          rw [hx] at cx hle
          rw [hy] at cy hle
          clear hnext hq hx hy
          have hgw : wo.heap.size < wi.drew.heap.size := hzr
          have X8 := Lib.hid (X.out.drew.alloc (.cells #[.bool q] 4))
          have O8 : Hid ((wi.drew.alloc (.cells #[.bool q] 4)).ownsRow w.heap.size 4 1 (.slice Ac i cc) i ((cutB (xs.take i) v).map bv)) := own_alloc' O.out _
          have C8 : Hid (∀ j u, ([.bool q] : List Value)[j]? = some u → (wi.drew.alloc (.cells #[.bool q] 4)).cell? ((⟨wi.drew.heap.size, 0, none⟩ : Addr).add j) = some u) := World.news_of_block (heap_alloc_new wi.drew (.cells #[.bool q] 4))
          have V8 : Hid (Below w.heap.size w (wi.drew.alloc (.cells #[.bool q] 4))) := V.out.drew.alloc hszi _
          have hne7 : ¬ wo.heap.size = wi.heap.size := by omega
          go_wp2
          go_region_law (first
            | (refine step_append_lies _ rfl _ _ _ rfl w.heap.size 4 i0 (.bool false) 1 1 Try.underlying29 hi0 hz0 hz1 hz2 rfl (by omega) (.slice Ac i cc) i ((cutB (xs.take i) v).map bv) (by rfl) O8.out ⟨wi.drew.heap.size, 0, none⟩ 1 1 [.bool q] (by rfl) (by simp) C8.out (by simp [Value.oneCell']) (by omega) (by unfold maxLen; omega) (by omega) V8.out.size (wi.drew.heap.size + 1) (by simp) ?_
               intro gg cap w9 ho9 hg9 hd9 hlt9
               have X9 := Lib.hid (X8.out.grown hg9 (own_blk_ne O8.out X8.out (by decide)))
               have e9 := X9.out.cell 2
               have f9 := X9.out.frozen 2))
          all_goals
            have gs10 := Lib.hid (grown_set (World.grownBy.refl w9 (some wo.heap.size)) (p := ⟨wo.heap.size, 2, none⟩) rfl (.slice (some ⟨gg, 0, none⟩) (i + 1) cap))
            have X10 : Hid (Blk (w9.setCell ⟨wo.heap.size, 2, none⟩ (.slice (some ⟨gg, 0, none⟩) (i + 1) cap)) wo.heap.size 31 #[.int .i64 (W : Int), .int .i64 (H : Int), .slice (some ⟨gg, 0, none⟩) (i + 1) cap]) := X9.out.set_ 2 _
            have O10 := own_grown' ho9 gs10.out (own_blk_ne ho9 X9.out (by decide))
            have hmap : (cutB (xs.take i) v).map bv ++ [.bool q] = (cutB (xs.take (i + 1)) v).map bv := by rw [NX.out, List.map_append]; rfl
            rw [hmap] at O10
            have V10 := Lib.hid ((V8.out.grown hg9 V8.out.size (fun j e => (O8.out.lt j e).1)).grown gs10.out (Nat.le_trans V8.out.size hg9.size) (fun j e => by injection e with e; omega))
            have hz10 : wo.heap.size < (w9.setCell ⟨wo.heap.size, 2, none⟩ (.slice (some ⟨gg, 0, none⟩) (i + 1) cap)).heap.size := X10.out.lt
            have O10' := Lib.hid O10
            clear ho9 hg9 hd9 e9 f9 X9 gs10 hmap O10
            generalize w9.setCell ⟨wo.heap.size, 2, none⟩ (.slice (some ⟨gg, 0, none⟩) (i + 1) cap) = w10 at *
            go_wp2
            go_roundw
            case rel => exact ⟨i + 1, some ⟨gg, 0, none⟩, cap, by go_num, by omega, X10, O10', V10, hz10⟩
            case measure => simp [intOf]; omega
        · obtain rfl : i = N := by omega
          have hcl : (cutB xs v).length = i := by rw [cutB_len, HL.out]
          have O' : Hid (wi.ownsRow w.heap.size 4 1 (.slice Ac i cc) i ((cutB xs v).map bv)) := by
            have := O.out
            rwa [List.take_of_length_le (by rw [HL.out]; exact Nat.le_refl _)] at this
          have SC := Lib.hid (l07Spans_any W H i Ac cc wo.heap.size (cutB xs v) wi.drew hW hW' hH hH' hcl HP.out X.out (Rd.own (show wi.drew.ownsRow w.heap.size 4 1 (.slice Ac i cc) i ((cutB xs v).map bv) from O'.out)))
          have hnb : ∀ j < i, ∀ b ∈ nbs W H j, b < i := fun j hj b hb => by
            rw [← HP.out] at hj ⊢
            exact nbs_lt hj hb
          have hsym : ∀ j < i, ∀ b ∈ nbs W H j, j ∈ nbs W H b := fun j hj b hb => by
            rw [← HP.out] at hj
            exact nbs_sym (by omega) hj hb
          have SI : Hid (∀ G Z, Grp (cutB xs v) i (nbs W H) i G Z → (0 < (spansTo G W Z.length).length ↔ P v)) := fun G Z hG => by
            rw [HEP.out]
            exact spans_iff hWN hnb hsym hG
          have HVP : Hid (Below w.heap.size w wi) := V
          clear hcl O O' X hnb hsym V
          go_wp2
          refine wp_region_call (by kernel_rfl) rfl (by kernel_rfl) (by kernel_rfl) (by kernel_rfl) 46 #[.pointer (some ⟨wo.heap.size, 0, none⟩)] (by go_simp) _ SC.out ?_
          rintro e w3 ⟨G, Z, A3, c3, rfl, hG, _, hb3⟩
          refine ⟨_, rfl, ?_⟩
          have hsp := SI.out G Z hG.out
          have HV3 : Hid (Below w.heap.size w w3) := HVP.out.drew.trans (hb3.mono hszi)
          obtain ⟨sp, esp⟩ : ∃ sp, (spansTo G W Z.length).length = sp := ⟨_, rfl⟩
          rw [esp] at hsp ⊢
          clear hb3 esp hG SI SC HVP
          by_cases hp : P v
          · have hp0 := hsp.2 hp
            have hpk : P (fval (xs.getD k 0)) := by rw [HEV.out]; exact hp
            cases bo with
            | none =>
              have NB : Hid (BestTo xs P (k + 1) (some k)) := HB.out.first hpk
              have hb1 : bestI none = -1 := rfl
              rw [hb1]
              clear hsp hp hpk HB hb1
              simp only [Act.put, List.setIfInBounds_toArray, List.set_cons_zero, List.set_cons_succ]
              repeat (go_big_quiet_step (fail))
              refine wpQuiet_nil ?_
              intro w4 hw4
              have HV4 : Hid (Below w.heap.size w w4) := by obtain ⟨nq, rfl⟩ := hw4; exact below_drewN HV3.out nq
              clear hw4 HV3
              go_wp2
              go_roundw
              case rel => exact ⟨k + 1, some k, by omega, by go_num, rfl, NB, HV4⟩
              case measure => simp [intOf]; omega
            | some j =>
              have hjk := HB.out.1
              have hjL : j < xs.length := by rw [HL.out]; omega
              have hkL : k < xs.length := by rw [HL.out]; exact hkN
              have hb1 : bestI (some j) = (j : Int) := rfl
              rw [hb1]
              have cc : ∀ w4, (∃ n, w4 = w3.drewN n) → w4.cell? ⟨b, off + k, none⟩ = some (.float .f32 (xs.getD k 0)) ∧ w4.cell? ⟨b, off + j, none⟩ = some (.float .f32 (xs.getD j 0)) := fun w4 h => by
                obtain ⟨nq, rfl⟩ := h
                exact ⟨(HV3.out.cell hbb).trans (rd_cellF (B := 0) (n := 0) HC.out hkL), (HV3.out.cell hbb).trans (rd_cellF (B := 0) (n := 0) HC.out hjL)⟩
              have ck := (cc w3 ⟨0, rfl⟩).1
              have cj := (cc w3 ⟨0, rfl⟩).2
              have hlt := ord_lt (fin_at HFN.out hkL) (fin_at HFN.out hjL)
              have hj0 : decide ((j : Int) < 0) = false := by simp
              have hjN : (j : Int) < (i : Int) := by omega
              by_cases hless : fval (xs.getD k 0) < fval (xs.getD j 0)
              · rw [decide_eq_true hless] at hlt
                have NB : Hid (BestTo xs P (k + 1) (some k)) := HB.out.better hpk hless
                obtain ⟨x, hx⟩ : ∃ x, xs.getD k 0 = x := ⟨_, rfl⟩
                obtain ⟨y, hy⟩ : ∃ y, xs.getD j 0 = y := ⟨_, rfl⟩
                rw [hx] at ck hlt
                rw [hy] at cj hlt
                clear hsp hp hpk HB hb1 cc hless hx hy
                simp only [Act.put, List.setIfInBounds_toArray, List.set_cons_zero, List.set_cons_succ]
                repeat (go_big_quiet_step (fail))
                refine wpQuiet_nil ?_
                intro w4 hw4
                have HV4 : Hid (Below w.heap.size w w4) := by obtain ⟨nq, rfl⟩ := hw4; exact below_drewN HV3.out nq
                clear hw4 HV3
                go_wp2
                go_roundw
                case rel => exact ⟨k + 1, some k, by omega, by go_num, rfl, NB, HV4⟩
                case measure => simp [intOf]; omega
              · rw [decide_eq_false hless] at hlt
                have NB : Hid (BestTo xs P (k + 1) (some j)) := HB.out.worse hless
                obtain ⟨x, hx⟩ : ∃ x, xs.getD k 0 = x := ⟨_, rfl⟩
                obtain ⟨y, hy⟩ : ∃ y, xs.getD j 0 = y := ⟨_, rfl⟩
                rw [hx] at ck hlt
                rw [hy] at cj hlt
                clear hsp hp hpk HB hb1 cc hless hx hy
                simp only [Act.put, List.setIfInBounds_toArray, List.set_cons_zero, List.set_cons_succ]
                repeat (go_big_quiet_step (fail))
                refine wpQuiet_nil ?_
                intro w4 hw4
                have HV4 : Hid (Below w.heap.size w w4) := by obtain ⟨nq, rfl⟩ := hw4; exact below_drewN HV3.out nq
                clear hw4 HV3
                go_wp2
                go_roundw
                case rel => exact ⟨k + 1, some j, by omega, by go_num, rfl, NB, HV4⟩
                case measure => simp [intOf]; omega
          · have hp0 : sp = 0 := by
              rcases Nat.eq_zero_or_pos sp with e | e
              · exact e
              · exact absurd (hsp.1 e) hp
            have NB : Hid (BestTo xs P (k + 1) bo) := HB.out.no (by rw [HEV.out]; exact hp)
            clear hsp hp HB
            subst hp0
            simp only [Act.put, List.setIfInBounds_toArray, List.set_cons_zero, List.set_cons_succ]
            repeat (go_big_quiet_step (fail))
            refine wpQuiet_nil ?_
            intro w4 hw4
            have HV4 : Hid (Below w.heap.size w w4) := by obtain ⟨nq, rfl⟩ := hw4; exact below_drewN HV3.out nq
            clear hw4 HV3
            go_wp2
            go_roundw
            case rel => exact ⟨k + 1, bo, by omega, by go_num, rfl, NB, HV4⟩
            case measure => simp [intOf]; omega
    · obtain rfl : k = N := by omega
      cases bo with
      | none =>
        exfalso
        obtain ⟨j, hj, hpj⟩ := HEX.out
        exact HB.out j hj hpj
      | some j =>
        have hjk := HB.out.1
        have hjL : j < xs.length := by rw [HL.out]; omega
        have hb1 : bestI (some j) = (j : Int) := rfl
        rw [hb1]
        have cj : wo.cell? ⟨b, off + j, none⟩ = some (.float .f32 (xs.getD j 0)) := (HV.out.cell hbb).trans (rd_cellF (B := 0) (n := 0) HC.out hjL)
        have hjN : (j : Int) < (k : Int) := by omega
        obtain ⟨x, hx⟩ : ∃ x, xs.getD j 0 = x := ⟨_, rfl⟩
        have HX := Lib.hid hx
        rw [hx] at cj
        clear hb1 hx
        go_wp2
        go_ret2
        exact ⟨j, HB.out, by rw [HX.out]; rfl, HV.out⟩
end Go.Proofs.Ytbkacmklgkgamaa

/- Walks: the least weight up to which cells lead down, by the program. Conditions: fewer than 2^63 weights. -/
import Derived.Test.YtbkacmklgkgamaaVr
import Derived.Test.YtbkacmklgkgamaaVo
import Derived.Test.YtbkacmklgkgamaaShelf
namespace Go.Proofs.Ytbkacmklgkgamaa
open Go.RowKit

theorem tagd_tv (xs : List Nat) : (tagd xs).map tv = xs.map fv := by
  apply List.ext_getElem?
  intro i
  rw [List.getElem?_map, List.getElem?_map]
  unfold tagd
  rw [List.getElem?_map]
  by_cases h : i < xs.length
  · rw [List.getElem?_range h, get_getD h]; rfl
  · rw [List.getElem?_eq_none (by simp; omega), List.getElem?_eq_none (by omega)]; rfl
theorem tagd_fin {xs : List Nat} (h : xs.all finW = true) : FinAll (tagd xs) := fun k => by
  by_cases c : k < xs.length
  · rw [tagd_el xs c]; exact fin_at h c
  · have : el (tagd xs) k = (0, 0) := by
      unfold el
      rw [List.getD_eq_getElem?_getD, List.getElem?_eq_none (by rw [tagd_len]; omega)]; rfl
    rw [this]; rfl
set_option maxRecDepth 100000 in
set_option maxHeartbeats 400000 in
theorem implThr_no (wd hi : Int) (A : Option Addr) (n c : Nat) (xs : List Nat) (w : World) (hn : n ≤ maxLen) (hA : Rd w w.heap.size 1 A n (xs.map fv)) (h : areW wd hi n xs = false) :
    Calls Try.prog 19 #[.slice A n c, .int .i64 wd, .int .i64 hi] w fun e w' => e = .returned (.tuple #[.float .f32 0, .bool false]) ∧ Below w.heap.size w w' := by
  have WC := Lib.hid (areWeights_any wd hi A n c w.heap.size xs w hn hA)
  rw [h] at WC
  clear hA h
  go_enter Try.func19, Try.ntmps19
  go_wp2_with fail
  refine WC.out.mono ?_
  rintro e w1 ⟨rfl, m, hw⟩
  have HW : Hid (Below w.heap.size w w1) := hw ▸ below_drewN (Below.refl _ _) m
  clear hw
  go_wp2
  go_ret2
  exact ⟨rfl, HW.out⟩
set_option maxRecDepth 100000 in
set_option maxHeartbeats 4000000 in
theorem implThr_ok (W H N j0 : Nat) (A : Option Addr) (c : Nat) (xs : List Nat) (w : World) (hW : 1 ≤ W) (hW' : W ≤ 16) (hH : 1 ≤ H) (hH' : H ≤ 16) (hl : xs.length = N) (hP : W * H = N) (h : areW W H N xs = true) (hA : Rd w w.heap.size 1 A N (xs.map fv))
    (hb : BestTo xs (fun v => SBp (cutB xs v) W N (nbs W H)) N (some j0)) :
    Calls Try.prog 19 #[.slice A N c, .int .i64 (W : Int), .int .i64 (H : Int)] w fun e w' => e = .returned (.tuple #[.float .f32 (xs.getD j0 0), .bool true]) ∧ Below w.heap.size w w' := by
  have hN256 : N ≤ 256 := by have := Nat.mul_le_mul hW' hH'; omega
  have hN1 : 1 ≤ N := by rw [← hP]; exact Nat.mul_pos hW hH
  have hWN : W ≤ N := by rw [← hP]; exact Nat.le_mul_of_pos_right W hH
  obtain ⟨i0, hi0, hz0, hz1, hz2⟩ := info_parts fltInfo
  have WC := Lib.hid (areWeights_any W H A N c w.heap.size xs w (by unfold maxLen; omega) hA)
  have HFN : Hid (xs.all finW = true) := by unfold areW at h; rw [Bool.and_eq_true] at h; exact h.2
  rw [h] at WC
  obtain ⟨b, off, rfl, hbb, hc⟩ := hA.2 (by omega)
  have CL : Hid (∀ w', Below w.heap.size w w' → Calls Try.prog 41 #[.slice (some ⟨b, off, none⟩) N c] w' fun e w'' => ∃ g cap, e = .returned (.slice (some ⟨g, 0, none⟩) N cap) ∧ w''.ownsRow w'.heap.size 50 1 (.slice (some ⟨g, 0, none⟩) N cap) N (xs.map fv) ∧ Below w'.heap.size w' w'') := fun w' hb' => by
    refine (Try.slices_Clone i0 (.float .f32 0) 1 4 hi0 hz0 hz1 hz2 rfl (by omega) (fun _ => by kernel_rfl) b off N c (xs.map fv) w' (by simp; omega) (by unfold maxLen; omega) (by omega) (fun j u hu => (hb'.cell hbb).trans (hc j u hu)) (fun u hu => by
      simp only [List.mem_map] at hu
      obtain ⟨x, _, rfl⟩ := hu
      rfl)).mono ?_
    rintro e w'' ⟨v', rfl, ho, _, hb2⟩
    obtain ⟨g, cap, rfl, _, _⟩ := ho.form (by omega)
    exact ⟨g, cap, rfl, ho, hb2⟩
  have HC := Lib.hid hc
  have HL := Lib.hid hl
  have HP := Lib.hid hP
  have HB := Lib.hid hb
  obtain ⟨P, eP⟩ : ∃ P : Int → Prop, P = fun v => SBp (cutB xs v) W N (nbs W H) := ⟨_, rfl⟩
  have HEP := Lib.hid eP
  rw [← eP] at HB
  clear hA h hc hl hP eP hb
  go_enter Try.func19, Try.ntmps19
  go_wp2_with fail
  refine WC.out.mono ?_
  rintro e w1 ⟨rfl, m, hw⟩
  have HW1 : Hid (Below w.heap.size w w1) := hw ▸ below_drewN (Below.refl _ _) m
  clear hw
  go_wp2_with fail
  refine (CL.out w1 HW1.out).mono ?_
  rintro e w2 ⟨g, cap, rfl, ho, hb2⟩
  have hsz1 := HW1.out.size
  have HW2 := Lib.hid (HW1.out.trans (hb2.mono hsz1))
  have hgw : w.heap.size ≤ g := Nat.le_trans hsz1 (ho.lt g rfl).1
  rw [← tagd_tv] at ho
  have SC := Lib.hid (sortStable_any w1.heap.size g N cap (tagd xs) w2 (by omega) ho (tagd_fin HFN.out) (by rw [← HL.out]; exact tagd_tr xs))
  clear ho hb2 CL WC
  go_wp2_with fail
  refine SC.out.mono ?_
  rintro e w3 ⟨rfl, M, hS, hT, hO, hG⟩
  have HS : Hid (Shuf 0 xs.length (tagd xs) M) := by rw [Hid, HL.out]; exact hS
  have HT : Hid (Srt fval M 0 xs.length) := by rw [Hid, HL.out]; exact hT
  have HFM : Hid (FinAll M) := (tagd_fin HFN.out).shuf hS
  have HO := Lib.hid (own_base hO hsz1)
  have HW3 := Lib.hid (HW2.out.grown hG HW2.out.size (fun k e => by injection e with e; omega))
  have Q0 : Hid (∀ q < 0, ¬ P (fval (el M q).1)) := fun q hq => absurd hq (by omega)
  clear hS hT hO hG SC HW1 HW2
  go_wp2
  go_loopw [25] (fun sk wr => ∃ (k : Nat), sk = .int .i64 (k : Int) ∧ k ≤ N ∧ Hid (∀ q < k, ¬ P (fval (el M q).1)) ∧ Hid (wr.ownsRow w.heap.size 50 1 (.slice (some ⟨g, 0, none⟩) N cap) N (M.map tv)) ∧ Hid (Below w.heap.size w wr)) (fun sk _ => N - (intOf sk).toNat)
  case atStart => exact ⟨0, rfl, Nat.zero_le _, Q0, HO, HW3⟩
  case round =>
    clear HO HW3 Q0
    obtain ⟨k, rfl, hk, HQ, HO, HV⟩ := hrel
    obtain ⟨wo, hwo⟩ : ∃ x, x = wr := ⟨_, rfl⟩
    subst hwo
    have hszo := HV.out.size
    by_cases hkN : k < N
    · have hki : (k : Int) < (N : Int) := by omega
      have ck := own_cellF HO.out hkN
      have hgo := (HO.out.lt g rfl).2
      obtain ⟨x, hx⟩ : ∃ x, (el M k).1 = x := ⟨_, rfl⟩
      have HX := Lib.hid hx
      have hfx : finW x = true := by rw [← hx]; exact HFM.out k
      rw [hx] at ck
      obtain ⟨v, ev⟩ : ∃ v, fval x = v := ⟨_, rfl⟩
      have HEV := Lib.hid ev
      have HFX := Lib.hid hfx
      clear ev hx hfx
      by_cases hsk : 0 < k ∧ fval (el M (k - 1)).1 = v
      · obtain ⟨hk0, hsk⟩ := hsk
        have zk : (k : Int) - 1 = ((k - 1 : Nat) : Int) := by omega
        obtain ⟨p, hp⟩ : ∃ p, k - 1 = p := ⟨_, rfl⟩
        rw [hp] at zk hsk
        have hpN : p < N := by omega
        have hpi : (p : Int) < (N : Int) := by omega
        have cp := own_cellF HO.out hpN
        have heq := ord_eq HFX.out (HFM.out p)
        rw [HEV.out, hsk, decide_eq_true rfl] at heq
        have NQ : Hid (∀ q < k + 1, ¬ P (fval (el M q).1)) := fun q hq => by
          by_cases c : q = k
          · rw [c, HX.out, HEV.out, ← hsk]; exact HQ.out p (by omega)
          · exact HQ.out q (by omega)
        clear hp hsk HQ
        go_wp2
        go_roundw
        case rel => exact ⟨k + 1, by go_num, by omega, NQ, HO, HV⟩
        case measure => simp [intOf]; omega
      · by_cases hk0 : 0 < k
        · have hne : ¬ fval (el M (k - 1)).1 = v := fun h => hsk ⟨hk0, h⟩
          have zk : (k : Int) - 1 = ((k - 1 : Nat) : Int) := by omega
          obtain ⟨p, hp⟩ : ∃ p, k - 1 = p := ⟨_, rfl⟩
          rw [hp] at zk hne
          have hpN : p < N := by omega
          have hpi : (p : Int) < (N : Int) := by omega
          have cp := own_cellF HO.out hpN
          have heq := ord_eq HFX.out (HFM.out p)
          rw [HEV.out, decide_eq_false (fun h => hne h.symm)] at heq
          clear hp hne hsk
          go_wp2_with (first
            | (refine wpList_store_blk rfl _ _ _ rfl wo.heap.size 0 rfl _ rfl [.int .i64 (W : Int), .int .i64 (H : Int), .slice none 0 0] rfl 31 #[.int .i64 0, .int .i64 0, .slice none 0 0] #[.int .i64 (W : Int), .int .i64 (H : Int), .slice none 0 0] (Blk.new _ _ _) (by kernel_rfl) (by simp) (by simp [Value.oneCell']) rfl ?_; intro w4 X4 g4)
            | fail)
          have HX4 := Lib.hid X4
          have HV4 := Lib.hid (below_boxed HV.out hszo g4)
          have HO4 := Lib.hid (own_boxed HO.out g4)
          clear X4 g4
          go_loopw [46] (fun si wr => ∃ (i : Nat) (Ac : Option Addr) (cc : Nat), si = .int .i64 (i : Int) ∧ i ≤ N ∧ Hid (Blk wr wo.heap.size 31 #[.int .i64 (W : Int), .int .i64 (H : Int), .slice Ac i cc]) ∧
              Hid (wr.ownsRow wo.heap.size 4 1 (.slice Ac i cc) i ((cutB (xs.take i) v).map bv)) ∧ Hid (Below w.heap.size w wr) ∧ Hid (wr.ownsRow w.heap.size 50 1 (.slice (some ⟨g, 0, none⟩) N cap) N (M.map tv)) ∧ wo.heap.size < wr.heap.size) (fun si _ => N - (intOf si).toNat)
          case atStart => exact ⟨0, none, 0, rfl, Nat.zero_le _, HX4, World.ownsRow_nil _ _ _ _, HV4, HO4, HX4.out.lt⟩
          case round =>
            clear HX4 HV4 HO4
            obtain ⟨i, Ac, cc, rfl, hi, X, O, V, OM, hzr⟩ := hrel
            obtain ⟨wi, hwi⟩ : ∃ x, x = wr := ⟨_, rfl⟩
            subst hwi
            have hszi := V.out.size
            by_cases hiN : i < N
            · have hii : (i : Int) < (N : Int) := by omega
              have hiL : i < xs.length := by rw [HL.out]; exact hiN
              have cy : wi.cell? ⟨b, off + i, none⟩ = some (.float .f32 (xs.getD i 0)) := (V.out.cell hbb).trans (rd_cellF (B := 0) (n := 0) HC.out hiL)
              have d2 : wi.cell? ⟨wo.heap.size, 2, none⟩ = some (.slice Ac i cc) := X.out.cell 2
              have hle := ord_le (fin_at HFN.out hiL) HFX.out
              have hnext := cutB_take xs v i (get_getD hiL)
              rw [HEV.out] at hle
              obtain ⟨q, hq⟩ : ∃ q, decide (fval (xs.getD i 0) ≤ v) = q := ⟨_, rfl⟩
              rw [hq] at hle hnext
              have NX := Lib.hid hnext
              obtain ⟨y, hy⟩ : ∃ y, xs.getD i 0 = y := ⟨_, rfl⟩
              rw [hy] at cy hle
              clear hnext hq hy
              go_wp2_with (at_builtin; refine wpList_append_one (W := wi) rfl _ _ _ rfl wo.heap.size 4 (.bool false) 1 Try.underlying29 boolInfo rfl Ac i cc _ rfl O.out (.bool q) _ rfl (by simp) rfl (by unfold maxLen; omega) (by omega) (by omega) ?_
                           intro A9 c9 w9 ho9 hg9 hd9
                           have X9 := Lib.hid (X.out.grown hg9 (own_blk_ne O.out X.out (by decide)))
                           have e9 := X9.out.cell 2
                           have f9 := X9.out.frozen 2)
              have gs10 := Lib.hid (grown_set (World.grownBy.refl w9 (some wo.heap.size)) (p := ⟨wo.heap.size, 2, none⟩) rfl (.slice A9 (i + 1) c9))
              have X10 : Hid (Blk (w9.setCell ⟨wo.heap.size, 2, none⟩ (.slice A9 (i + 1) c9)) wo.heap.size 31 #[.int .i64 (W : Int), .int .i64 (H : Int), .slice A9 (i + 1) c9]) := X9.out.set_ 2 _
              have O10 := own_grown' ho9 gs10.out (own_blk_ne ho9 X9.out (by decide))
              have hmap : (cutB (xs.take i) v).map bv ++ [.bool q] = (cutB (xs.take (i + 1)) v).map bv := by rw [NX.out, List.map_append]; rfl
              rw [hmap] at O10
              have V10 := Lib.hid ((V.out.grown hg9 hszi (fun j e => by have := (O.out.lt j e).1; omega)).grown gs10.out (Nat.le_trans hszi hg9.size) (fun j e => by injection e with e; omega))
              have OM9 := own_kept OM.out hg9 (Dis.types OM.out O.out (by decide))
              have OM10 := Lib.hid (own_grown' OM9 gs10.out (own_blk_ne OM9 X9.out (by decide)))
              have hz10 : wo.heap.size < (w9.setCell ⟨wo.heap.size, 2, none⟩ (.slice A9 (i + 1) c9)).heap.size := X10.out.lt
              have O10' := Lib.hid O10
              clear ho9 hg9 hd9 e9 f9 X9 gs10 hmap O10 OM9
              generalize w9.setCell ⟨wo.heap.size, 2, none⟩ (.slice A9 (i + 1) c9) = w10 at *
              go_roundw
              case rel => exact ⟨i + 1, A9, c9, by go_num, by omega, X10, O10', V10, OM10, hz10⟩
              case measure => simp [intOf]; omega
            · obtain rfl : i = N := by omega
              have hcl : (cutB xs v).length = i := by rw [cutB_len, HL.out]
              have O' : Hid (wi.ownsRow wo.heap.size 4 1 (.slice Ac i cc) i ((cutB xs v).map bv)) := by
                have := O.out
                rwa [List.take_of_length_le (by rw [HL.out]; exact Nat.le_refl _)] at this
              have SPC := Lib.hid (spans_any W H i Ac cc (cutB xs v) wi hW hW' hH hH' hcl HP.out (Rd.own O'.out))
              have hnb : ∀ j < i, ∀ b ∈ nbs W H j, b < i := fun j hj b hb => by
                rw [← HP.out] at hj ⊢
                exact nbs_lt hj hb
              have hsym : ∀ j < i, ∀ b ∈ nbs W H j, j ∈ nbs W H b := fun j hj b hb => by
                rw [← HP.out] at hj
                exact nbs_sym (by omega) hj hb
              have SI : Hid (∀ G Z, Grp (cutB xs v) i (nbs W H) i G Z → (0 < (spansTo G W Z.length).length ↔ P v)) := fun G Z hG => by
                rw [HEP.out]
                exact spans_iff hWN hnb hsym hG
              clear hcl O O' hnb hsym
              go_wp2_with (first
                | (refine wpList_load_blk rfl _ _ rfl wo.heap.size 0 rfl 31 _ X.out [.int .i64 (W : Int), .int .i64 (H : Int), .slice Ac i cc] rfl _ Try.underlying31 rfl (by kernel_rfl) ?_)
                | fail)
              refine SPC.out.mono ?_
              rintro e w5 ⟨G, Z, A5, c5, rfl, hG, _, hb5⟩
              have hsp := SI.out G Z hG.out
              have HV5 := Lib.hid (V.out.trans (hb5.mono hszi))
              have HO5 := Lib.hid (own_below OM.out hb5)
              obtain ⟨sp, esp⟩ : ∃ sp, (spansTo G W Z.length).length = sp := ⟨_, rfl⟩
              rw [esp] at hsp ⊢
              clear hb5 esp hG SI SPC V X OM
              by_cases hp : P v
              · have hp0 := hsp.2 hp
                have HE : Hid (xs.getD j0 0 = x) := by
                  rw [← HX.out]
                  exact (sorted_first (P := P) HS.out HT.out (by rw [HL.out]; exact hkN) (by rw [HX.out, HEV.out]; exact hp) HQ.out (by rw [HL.out]; exact HB.out)).symm
                clear hsp hp
                go_wp2
                go_ret2
                exact ⟨by rw [HE.out]; rfl, HV5.out⟩
              · have hp0 : sp = 0 := by
                  rcases Nat.eq_zero_or_pos sp with e | e
                  · exact e
                  · exact absurd (hsp.1 e) hp
                have NQ : Hid (∀ q < k + 1, ¬ P (fval (el M q).1)) := fun q hq => by
                  by_cases c : q = k
                  · rw [c, HX.out, HEV.out]; exact hp
                  · exact HQ.out q (by omega)
                clear hsp hp
                subst hp0
                go_wp2
                go_roundw
                case rel => exact ⟨k + 1, by go_num, by omega, NQ, HO5, HV5⟩
                case measure => simp [intOf]; omega
        · have hk00 : decide (0 < k) = false := by simp; omega
          clear hsk
          go_wp2_with (first
            | (refine wpList_store_blk rfl _ _ _ rfl wo.heap.size 0 rfl _ rfl [.int .i64 (W : Int), .int .i64 (H : Int), .slice none 0 0] rfl 31 #[.int .i64 0, .int .i64 0, .slice none 0 0] #[.int .i64 (W : Int), .int .i64 (H : Int), .slice none 0 0] (Blk.new _ _ _) (by kernel_rfl) (by simp) (by simp [Value.oneCell']) rfl ?_; intro w4 X4 g4)
            | fail)
          have HX4 := Lib.hid X4
          have HV4 := Lib.hid (below_boxed HV.out hszo g4)
          have HO4 := Lib.hid (own_boxed HO.out g4)
          clear X4 g4
          go_loopw [46] (fun si wr => ∃ (i : Nat) (Ac : Option Addr) (cc : Nat), si = .int .i64 (i : Int) ∧ i ≤ N ∧ Hid (Blk wr wo.heap.size 31 #[.int .i64 (W : Int), .int .i64 (H : Int), .slice Ac i cc]) ∧
              Hid (wr.ownsRow wo.heap.size 4 1 (.slice Ac i cc) i ((cutB (xs.take i) v).map bv)) ∧ Hid (Below w.heap.size w wr) ∧ Hid (wr.ownsRow w.heap.size 50 1 (.slice (some ⟨g, 0, none⟩) N cap) N (M.map tv)) ∧ wo.heap.size < wr.heap.size) (fun si _ => N - (intOf si).toNat)
          case atStart => exact ⟨0, none, 0, rfl, Nat.zero_le _, HX4, World.ownsRow_nil _ _ _ _, HV4, HO4, HX4.out.lt⟩
          case round =>
            clear HX4 HV4 HO4
            obtain ⟨i, Ac, cc, rfl, hi, X, O, V, OM, hzr⟩ := hrel
            obtain ⟨wi, hwi⟩ : ∃ x, x = wr := ⟨_, rfl⟩
            subst hwi
            have hszi := V.out.size
            by_cases hiN : i < N
            · have hii : (i : Int) < (N : Int) := by omega
              have hiL : i < xs.length := by rw [HL.out]; exact hiN
              have cy : wi.cell? ⟨b, off + i, none⟩ = some (.float .f32 (xs.getD i 0)) := (V.out.cell hbb).trans (rd_cellF (B := 0) (n := 0) HC.out hiL)
              have d2 : wi.cell? ⟨wo.heap.size, 2, none⟩ = some (.slice Ac i cc) := X.out.cell 2
              have hle := ord_le (fin_at HFN.out hiL) HFX.out
              have hnext := cutB_take xs v i (get_getD hiL)
              rw [HEV.out] at hle
              obtain ⟨q, hq⟩ : ∃ q, decide (fval (xs.getD i 0) ≤ v) = q := ⟨_, rfl⟩
              rw [hq] at hle hnext
              have NX := Lib.hid hnext
              obtain ⟨y, hy⟩ : ∃ y, xs.getD i 0 = y := ⟨_, rfl⟩
              rw [hy] at cy hle
              clear hnext hq hy
              go_wp2_with (at_builtin; refine wpList_append_one (W := wi) rfl _ _ _ rfl wo.heap.size 4 (.bool false) 1 Try.underlying29 boolInfo rfl Ac i cc _ rfl O.out (.bool q) _ rfl (by simp) rfl (by unfold maxLen; omega) (by omega) (by omega) ?_
                           intro A9 c9 w9 ho9 hg9 hd9
                           have X9 := Lib.hid (X.out.grown hg9 (own_blk_ne O.out X.out (by decide)))
                           have e9 := X9.out.cell 2
                           have f9 := X9.out.frozen 2)
              have gs10 := Lib.hid (grown_set (World.grownBy.refl w9 (some wo.heap.size)) (p := ⟨wo.heap.size, 2, none⟩) rfl (.slice A9 (i + 1) c9))
              have X10 : Hid (Blk (w9.setCell ⟨wo.heap.size, 2, none⟩ (.slice A9 (i + 1) c9)) wo.heap.size 31 #[.int .i64 (W : Int), .int .i64 (H : Int), .slice A9 (i + 1) c9]) := X9.out.set_ 2 _
              have O10 := own_grown' ho9 gs10.out (own_blk_ne ho9 X9.out (by decide))
              have hmap : (cutB (xs.take i) v).map bv ++ [.bool q] = (cutB (xs.take (i + 1)) v).map bv := by rw [NX.out, List.map_append]; rfl
              rw [hmap] at O10
              have V10 := Lib.hid ((V.out.grown hg9 hszi (fun j e => by have := (O.out.lt j e).1; omega)).grown gs10.out (Nat.le_trans hszi hg9.size) (fun j e => by injection e with e; omega))
              have OM9 := own_kept OM.out hg9 (Dis.types OM.out O.out (by decide))
              have OM10 := Lib.hid (own_grown' OM9 gs10.out (own_blk_ne OM9 X9.out (by decide)))
              have hz10 : wo.heap.size < (w9.setCell ⟨wo.heap.size, 2, none⟩ (.slice A9 (i + 1) c9)).heap.size := X10.out.lt
              have O10' := Lib.hid O10
              clear ho9 hg9 hd9 e9 f9 X9 gs10 hmap O10 OM9
              generalize w9.setCell ⟨wo.heap.size, 2, none⟩ (.slice A9 (i + 1) c9) = w10 at *
              go_roundw
              case rel => exact ⟨i + 1, A9, c9, by go_num, by omega, X10, O10', V10, OM10, hz10⟩
              case measure => simp [intOf]; omega
            · obtain rfl : i = N := by omega
              have hcl : (cutB xs v).length = i := by rw [cutB_len, HL.out]
              have O' : Hid (wi.ownsRow wo.heap.size 4 1 (.slice Ac i cc) i ((cutB xs v).map bv)) := by
                have := O.out
                rwa [List.take_of_length_le (by rw [HL.out]; exact Nat.le_refl _)] at this
              have SPC := Lib.hid (spans_any W H i Ac cc (cutB xs v) wi hW hW' hH hH' hcl HP.out (Rd.own O'.out))
              have hnb : ∀ j < i, ∀ b ∈ nbs W H j, b < i := fun j hj b hb => by
                rw [← HP.out] at hj ⊢
                exact nbs_lt hj hb
              have hsym : ∀ j < i, ∀ b ∈ nbs W H j, j ∈ nbs W H b := fun j hj b hb => by
                rw [← HP.out] at hj
                exact nbs_sym (by omega) hj hb
              have SI : Hid (∀ G Z, Grp (cutB xs v) i (nbs W H) i G Z → (0 < (spansTo G W Z.length).length ↔ P v)) := fun G Z hG => by
                rw [HEP.out]
                exact spans_iff hWN hnb hsym hG
              clear hcl O O' hnb hsym
              go_wp2_with (first
                | (refine wpList_load_blk rfl _ _ rfl wo.heap.size 0 rfl 31 _ X.out [.int .i64 (W : Int), .int .i64 (H : Int), .slice Ac i cc] rfl _ Try.underlying31 rfl (by kernel_rfl) ?_)
                | fail)
              refine SPC.out.mono ?_
              rintro e w5 ⟨G, Z, A5, c5, rfl, hG, _, hb5⟩
              have hsp := SI.out G Z hG.out
              have HV5 := Lib.hid (V.out.trans (hb5.mono hszi))
              have HO5 := Lib.hid (own_below OM.out hb5)
              obtain ⟨sp, esp⟩ : ∃ sp, (spansTo G W Z.length).length = sp := ⟨_, rfl⟩
              rw [esp] at hsp ⊢
              clear hb5 esp hG SI SPC V X OM
              by_cases hp : P v
              · have hp0 := hsp.2 hp
                have HE : Hid (xs.getD j0 0 = x) := by
                  rw [← HX.out]
                  exact (sorted_first (P := P) HS.out HT.out (by rw [HL.out]; exact hkN) (by rw [HX.out, HEV.out]; exact hp) HQ.out (by rw [HL.out]; exact HB.out)).symm
                clear hsp hp
                go_wp2
                go_ret2
                exact ⟨by rw [HE.out]; rfl, HV5.out⟩
              · have hp0 : sp = 0 := by
                  rcases Nat.eq_zero_or_pos sp with e | e
                  · exact e
                  · exact absurd (hsp.1 e) hp
                have NQ : Hid (∀ q < k + 1, ¬ P (fval (el M q).1)) := fun q hq => by
                  by_cases c : q = k
                  · rw [c, HX.out, HEV.out]; exact hp
                  · exact HQ.out q (by omega)
                clear hsp hp
                subst hp0
                go_wp2
                go_roundw
                case rel => exact ⟨k + 1, by go_num, by omega, NQ, HO5, HV5⟩
                case measure => simp [intOf]; omega
    · obtain rfl : k = N := by omega
      exfalso
      obtain ⟨q, hq, hp⟩ := sorted_some (P := P) HS.out ⟨j0, by rw [HL.out]; exact HB.out.1, HB.out.2.1⟩
      rw [HL.out] at hq
      exact HQ.out q hq hp
end Go.Proofs.Ytbkacmklgkgamaa

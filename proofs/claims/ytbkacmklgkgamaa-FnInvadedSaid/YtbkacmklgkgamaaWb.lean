/- Walk: cells that are invaded, by the program (printed by gen_inv.py). Conditions: the arguments are valid. -/
import Derived.Test.YtbkacmklgkgamaaWa
import Derived.Test.YtbkacmklgkgamaaVr
import Derived.Test.YtbkacmklgkgamaaTs
import Derived.Laws.MakeOwn
namespace Go.Proofs.Ytbkacmklgkgamaa
open Go.RowKit

def Cand (W H : Nat) (cs : List Bool) (j : Nat) : Prop := cs.getD j false = false ∧ touch cs (nbs W H j) = true
def CandTo (W H : Nat) (cs : List Bool) (i : Nat) : Option Nat → Prop
  | none => ∀ j < i, ¬ Cand W H cs j
  | some m => m < i ∧ Cand W H cs m
theorem CandTo.no {W H i : Nat} {cs : List Bool} {bo : Option Nat} (h : CandTo W H cs i bo) (hn : ¬ Cand W H cs i) : CandTo W H cs (i + 1) bo := by
  cases bo with
  | none =>
    intro j hj
    rcases Nat.eq_or_lt_of_le (Nat.lt_succ_iff.1 hj) with e | e
    · rw [e]; exact hn
    · exact h j e
  | some m => exact ⟨Nat.lt_succ_of_lt h.1, h.2⟩
theorem CandTo.yes {W H i : Nat} {cs : List Bool} (hc : Cand W H cs i) : CandTo W H cs (i + 1) (some i) := ⟨Nat.lt_succ_self _, hc⟩
theorem CandTo.keep {W H i m : Nat} {cs : List Bool} (h : CandTo W H cs i (some m)) : CandTo W H cs (i + 1) (some m) := ⟨Nat.lt_succ_of_lt h.1, h.2⟩
theorem made_one' (v : Value) (n : Nat) : (madeCells #[v] (n * 1)).toList = List.replicate n v := by
  unfold madeCells
  refine List.ext_getElem (by simp) fun i h1 h2 => ?_
  simp [Nat.mod_one]
theorem own_cellB' {w : World} {base g n c : Nat} {e : TypeId} {cs : List Bool} (h : w.ownsRow base e 1 (.slice (some ⟨g, 0, none⟩) n c) n (cs.map bv)) {i : Nat} (hi : i < n) : w.cell? ⟨g, i, none⟩ = some (.bool (cs.getD i false)) := by
  have hl : cs.length = n := by have := h.1; simpa using this
  rw [h.cellAt _ (by simp; omega), List.getElem?_map, List.getD_eq_getElem?_getD, List.getElem?_eq_getElem (by omega)]; rfl
theorem made_rep (N : Nat) : (madeCells (Value.bool false).cells (N * 1)).toList = (List.replicate N false).map bv := by
  rw [List.map_replicate]
  exact made_one' _ _
set_option maxRecDepth 100000 in
set_option maxHeartbeats 8000000 in
theorem invade_ok (W H N at_ count : Nat) (A : Option Addr) (c : Nat) (xs : List Nat) (w : World) (hW : 1 ≤ W) (hW' : W ≤ 16) (hH : 1 ≤ H) (hH' : H ≤ 16) (hl : xs.length = N) (hP : W * H = N) (h : areW W H N xs = true) (hat : at_ < N) (hc1 : 1 ≤ count) (hcN : count ≤ N)
    (hA : Rd w w.heap.size 1 A N (xs.map fv)) :
    Calls Try.prog 18 #[.slice A N c, .int .i64 (W : Int), .int .i64 (H : Int), .int .i64 (at_ : Int), .int .i64 (count : Int)] w fun e w' => ∃ (ord : List Nat) (cs : List Bool) (Ao : Option Addr) (co : Nat), e = .returned (.tuple #[.slice Ao count co, .bool true]) ∧ Inv W H N at_ count ord cs ∧
      w'.ownsRow w.heap.size 2 1 (.slice Ao count co) count (ord.map nv) ∧ Below w.heap.size w w' := by
  have hN256 : N ≤ 256 := by have := Nat.mul_le_mul hW' hH'; omega
  have hN1 : 1 ≤ N := by omega
  obtain ⟨i0, hi0, hz0, hz1, hz2⟩ := info_parts boolInfo
  have WC := Lib.hid (areWeights_any W H A N c w.heap.size xs w (by unfold maxLen; omega) hA)
  rw [h] at WC
  obtain ⟨b, off, rfl, hbb, hc⟩ := hA.2 (by omega)
  have HC := Lib.hid hc
  have HL := Lib.hid hl
  have HP := Lib.hid hP
  have hWH : (W : Int) * (H : Int) = (N : Int) := by rw [← hP]; simp
  have B1 : Hid (inB (at_ : Int) 0 ((N : Int) - 1) = true) := by unfold Hid inB; simp; omega
  have B2 : Hid (inB (count : Int) 1 (N : Int) = true) := by unfold Hid inB; simp; omega
  obtain ⟨c1, hc1'⟩ : ∃ c1, count - 1 = c1 := ⟨_, rfl⟩
  have zc1 : (count : Int) - 1 = (c1 : Int) := by omega
  clear hA h hc hl hP
  go_enter Try.func18, Try.ntmps18
  go_wp2_with fail
  refine WC.out.mono ?_
  rintro e w1 ⟨rfl, m, hw⟩
  have HW1 : Hid (Below w.heap.size w w1) := hw ▸ below_drewN (Below.refl _ _) m
  clear hw WC
  go_wp2_with fail
  refine (within_any _ _ _ _).mono ?_
  rintro e w5 ⟨rfl, h5⟩
  obtain rfl := h5.symm
  rw [B1.out]
  go_wp2_with fail
  refine (within_any _ _ _ _).mono ?_
  rintro e w5 ⟨rfl, h5⟩
  obtain rfl := h5.symm
  rw [B2.out]
  go_wp2_with (first
    | (at_make; refine wpList_make_full _ rfl _ _ _ rfl w1.heap.size 4 i0 (.bool false) 1 Try.underlying29 hi0 hz0 hz1 .i64 .i64 N N N rfl rfl rfl rfl (by rw [hz2]; omega) (by unfold maxLen; omega) (Nat.le_refl _) ?_; intro w2 ho2 hg2)
    | (refine wpList_store_blk rfl _ _ _ rfl w2.heap.size 0 rfl _ rfl [.int .i64 (W : Int), .int .i64 (H : Int), .slice (some ⟨w1.heap.size, 0, none⟩) N N] rfl 31 #[.int .i64 0, .int .i64 0, .slice none 0 0] #[.int .i64 (W : Int), .int .i64 (H : Int), .slice (some ⟨w1.heap.size, 0, none⟩) N N] (Blk.new _ _ _) (by kernel_rfl) (by simp) (by simp [Value.oneCell']) rfl ?_
       intro w3 X3 g3
       have ho3 : w3.ownsRow w1.heap.size 4 1 (.slice (some ⟨w1.heap.size, 0, none⟩) N N) N ((List.replicate N false).map bv) := by
         have := own_boxed ho2 g3
         rwa [show (madeCells (Value.bool false).cells (N * 1)).toList = (List.replicate N false).map bv from made_rep N] at this
       have d2 := X3.cell 2
       have cA := own_cellB' ho3 hat
       have fA : w3.frozen? ⟨w1.heap.size, at_, none⟩ = false := ho3.frozenAt _)
    | fail)
  obtain ⟨ga, ega⟩ : ∃ ga, w1.heap.size = ga := ⟨_, rfl⟩
  obtain ⟨g12, eg12⟩ : ∃ g12, w2.heap.size = g12 := ⟨_, rfl⟩
  have hgw : w.heap.size ≤ ga := by rw [← ega]; exact HW1.out.size
  have hg12 : ga ≤ g12 := by rw [← ega, ← eg12]; exact hg2.size
  have V2 : Below w.heap.size w w2 := HW1.out.grown hg2 HW1.out.size (fun k e => by cases e)
  have V3 : Hid (Below w.heap.size w w3) := below_boxed V2 V2.size g3
  rw [ega] at ho3 d2 cA fA X3 ⊢
  rw [eg12] at X3 d2 ⊢
  have O4 : Hid ((w3.setCell ⟨ga, at_, none⟩ (.bool true)).ownsRow w.heap.size 4 1 (.slice (some ⟨ga, 0, none⟩) N N) N (((List.replicate N false).set at_ true).map bv)) := by
    rw [List.map_set]
    exact own_base (ho3.stored at_ (.bool true)).1 hgw
  have X4 : Hid (Blk (w3.setCell ⟨ga, at_, none⟩ (.bool true)) g12 31 #[.int .i64 (W : Int), .int .i64 (H : Int), .slice (some ⟨ga, 0, none⟩) N N]) := X3.far (fun e => own_blk_ne ho3 X3 (by decide) (by rw [e]; rfl)) _
  have V4 : Hid (Below w.heap.size w (w3.setCell ⟨ga, at_, none⟩ (.bool true))) := V3.out.grown (ho3.stored at_ (.bool true)).2 V3.out.size (fun j e => by have := (ho3.lt j e).1; omega)
  have NI : Hid (Inv W H N at_ 1 [at_] ((List.replicate N false).set at_ true)) := Inv.start hat
  clear ho2 hg2 ho3 X3 g3 d2 cA fA V2 V3 ega eg12 HW1
  have hz43 : Hid ((w3.setCell ⟨ga, at_, none⟩ (.bool true)).heap.size = w3.heap.size) := by unfold Hid; simp [World.setCell]
  generalize w3.setCell ⟨ga, at_, none⟩ (.bool true) = w4 at *
  have O5 := Lib.hid (O4.out.alloc (.cells #[.int .i64 (at_ : Int)] 2))
  have X5 := Lib.hid (X4.out.alloc (.cells #[.int .i64 (at_ : Int)] 2))
  have V5 := Lib.hid (V4.out.alloc V4.out.size (.cells #[.int .i64 (at_ : Int)] 2))
  have R5 : Hid ((w4.alloc (.cells #[.int .i64 (at_ : Int)] 2)).ownsRow w.heap.size 2 1 (.slice (some ⟨w4.heap.size, 0, none⟩) 1 1) 1 ([at_].map nv)) := (Blk.new w4 2 #[.int .i64 (at_ : Int)]).own (n := 1) (size := 1) V4.out.size rfl (by unfold maxLen; omega)
  rw [hz43.out] at R5
  clear O4 X4 V4
  go_loopw [13, 53] (fun so sk wr => ∃ (k : Nat) (ord : List Nat) (cs : List Bool) (Ao : Option Addr) (co : Nat), so = .slice Ao (k + 1) co ∧ sk = .int .i64 (k : Int) ∧ k ≤ c1 ∧ Hid (Inv W H N at_ (k + 1) ord cs) ∧ Hid (wr.ownsRow w.heap.size 2 1 (.slice Ao (k + 1) co) (k + 1) (ord.map nv)) ∧
      Hid (wr.ownsRow w.heap.size 4 1 (.slice (some ⟨ga, 0, none⟩) N N) N (cs.map bv)) ∧ Hid (Blk wr g12 31 #[.int .i64 (W : Int), .int .i64 (H : Int), .slice (some ⟨ga, 0, none⟩) N N]) ∧ Hid (Below w.heap.size w wr)) (fun _ sk _ => c1 - (intOf sk).toNat)
  case atStart => exact ⟨0, [at_], _, some ⟨w3.heap.size, 0, none⟩, 1, rfl, rfl, Nat.zero_le _, NI, R5, O5, X5, V5⟩
  case round =>
    clear NI R5 O5 X5 V5
    obtain ⟨k, ord, cs, Ao, co, rfl, rfl, hk, HI, R, O, X, V⟩ := hrel
    obtain ⟨wo, hwo⟩ : ∃ x, x = wr := ⟨_, rfl⟩
    subst hwo
    have hszo := V.out.size
    by_cases hkc : k < c1
    · have hki : (k : Int) < (c1 : Int) := by omega
      have hkN : k + 1 < N := by omega
      have C0 : Hid (CandTo W H cs 0 none) := fun j hj => absurd hj (by omega)
      have B0 : Hid (Below wo.heap.size wo wo) := Below.refl _ _
      have hnb : ∀ j < N, ∀ b ∈ nbs W H j, b < N := fun j hj b hb => by
        rw [← HP.out] at hj ⊢
        exact nbs_lt hj hb
      have HNB := Lib.hid hnb
      clear hnb
      go_wp2
      go_loopw [14, 58] (fun sb si wr => ∃ (i : Nat) (bo : Option Nat), si = .int .i64 (i : Int) ∧ sb = .int .i64 (bestI bo) ∧ i ≤ N ∧ Hid (CandTo W H cs i bo) ∧ Hid (Below wo.heap.size wo wr)) (fun _ si _ => N - (intOf si).toNat)
      case atStart => exact ⟨0, none, rfl, rfl, Nat.zero_le _, C0, B0⟩
      case round =>
        clear C0 B0
        obtain ⟨i, bo, rfl, rfl, hi, HCT, HB⟩ := hrel
        obtain ⟨wi, hwi⟩ : ∃ x, x = wr := ⟨_, rfl⟩
        subst hwi
        have hszi := HB.out.size
        by_cases hiN : i < N
        · have hii : (i : Int) < (N : Int) := by omega
          have hiL : i < xs.length := by rw [HL.out]; exact hiN
          have X1 := Lib.hid (X.out.below HB.out X.out.lt)
          have O1 := Lib.hid (own_below O.out HB.out)
          have hwwi : Hid (Below w.heap.size w wi) := V.out.trans (HB.out.mono hszo)
          obtain ⟨x, hx⟩ : ∃ x, xs.getD i 0 = x := ⟨_, rfl⟩
          obtain ⟨q, hq⟩ : ∃ q, cs.getD i false = q := ⟨_, rfl⟩
          have HQ := Lib.hid hq
          have K0 : Hid (∀ w', Below wi.heap.size wi w' → w'.cell? ⟨g12, 0, none⟩ = some (.int .i64 (W : Int)) ∧ w'.cell? ⟨g12, 1, none⟩ = some (.int .i64 (H : Int)) ∧ w'.cell? ⟨g12, 2, none⟩ = some (.slice (some ⟨ga, 0, none⟩) N N) ∧ w'.cell? ⟨ga, i, none⟩ = some (.bool q) ∧ w'.cell? ⟨b, off + i, none⟩ = some (.float .f32 x)) := fun w' h => by
            have hlt := X1.out.lt
            have hga := (O1.out.lt ga rfl).2
            refine ⟨(h.cell hlt).trans (X1.out.cell 0), (h.cell hlt).trans (X1.out.cell 1), (h.cell hlt).trans (X1.out.cell 2), (h.cell hga).trans ?_, ?_⟩
            · rw [← hq]; exact own_cellB' O1.out hiN
            · rw [← hx]
              exact ((hwwi.out.trans (h.mono (Nat.le_trans hszo hszi))).cell hbb).trans (rd_cellF (B := 0) (n := 0) HC.out hiL)
          have TC : Hid (∀ w', Below wi.heap.size wi w' → Calls Try.prog 40 #[.agg #[.int .i64 (W : Int), .int .i64 (H : Int), .slice (some ⟨ga, 0, none⟩) N N], .int .i64 (i : Int)] w' fun e w'' => e = .returned (.bool (touch cs (nbs W H i))) ∧ Below w'.heap.size w' w'') := fun w' h =>
            touches_any W H N i (some ⟨ga, 0, none⟩) N cs w' hW hW' hH hH' HI.out.clen HP.out hiN (Rd.own (own_below O1.out h))
          obtain ⟨t, ht⟩ : ∃ t, touch cs (nbs W H i) = t := ⟨_, rfl⟩
          have HT := Lib.hid ht
          rw [ht] at TC
          clear hx hq ht
          have hpi : (0 : Int) ≤ (i : Int) := by omega
          cases q with
          | true =>
            have NC : Hid (CandTo W H cs (i + 1) bo) := HCT.out.no (fun h => by have := h.1; rw [HQ.out] at this; cases this)
            have KC : Hid (∀ w', Below wi.heap.size wi w' → w'.cell? ⟨g12, 0, none⟩ = some (.int .i64 (W : Int)) ∧ w'.cell? ⟨g12, 1, none⟩ = some (.int .i64 (H : Int)) ∧ w'.cell? ⟨g12, 2, none⟩ = some (.slice (some ⟨ga, 0, none⟩) N N) ∧ w'.cell? ⟨ga, i, none⟩ = some (.bool true) ∧ w'.cell? ⟨b, off + i, none⟩ = some (.float .f32 x) ∧ True ∧ True) := fun w' h => by
              obtain ⟨y0, y1, y2, y3, y4⟩ := K0.out w' h
              exact ⟨y0, y1, y2, y3, y4, trivial, trivial⟩
            clear HCT K0
            go_wp2
            refine wp_region_class (fun w' => Below wi.heap.size wi w') (by kernel_rfl) (by kernel_rfl) (Below.refl _ _).drew ?_
            go_big_quiet_want
            refine q_read (.pointer (some ⟨g12, 2, none⟩)) (fun w' hw' => ?_) ?_
            · go_simp
            simp only [Act.put, List.setIfInBounds_toArray, List.set_cons_zero, List.set_cons_succ]
            go_big_quiet_on
            go_big_quiet_want
            refine q_read (.slice (some ⟨ga, 0, none⟩) N N) (fun w' hw' => ?_) ?_
            · obtain ⟨y0, y1, y2, y3, y4, y5, y6⟩ := KC.out w' hw'
              go_simp
            simp only [Act.put, List.setIfInBounds_toArray, List.set_cons_zero, List.set_cons_succ]
            go_big_quiet_on
            go_big_quiet_want
            go_big_quiet_op
            go_big_quiet_on
            go_big_quiet_want
            refine q_read (.pointer (some ⟨ga, i, none⟩)) (fun w' hw' => ?_) ?_
            · go_simp
            simp only [Act.put, List.setIfInBounds_toArray, List.set_cons_zero, List.set_cons_succ]
            go_big_quiet_on
            go_big_quiet_want
            refine q_read (.bool true) (fun w' hw' => ?_) ?_
            · obtain ⟨y0, y1, y2, y3, y4, y5, y6⟩ := KC.out w' hw'
              go_simp
            simp only [Act.put, List.setIfInBounds_toArray, List.set_cons_zero, List.set_cons_succ]
            go_big_quiet_on
            go_big_quiet_want
            refine q_read (.bool false) (fun w' hw' => ?_) ?_
            · go_simp
            simp only [Act.put, List.setIfInBounds_toArray, List.set_cons_zero, List.set_cons_succ]
            go_big_quiet_on
            go_big_quiet_want
            go_big_quiet_op
            go_big_quiet_on
            go_big_quiet_skip
            go_big_quiet_skip
            go_big_quiet_skip
            go_big_quiet_want
            refine q_read (.bool false) (fun w' hw' => ?_) ?_
            · go_simp
            simp only [Act.put, List.setIfInBounds_toArray, List.set_cons_zero, List.set_cons_succ]
            go_big_quiet_on
            go_big_quiet_want
            go_big_quiet_op
            go_big_quiet_on
            go_big_quiet_skip
            go_big_quiet_skip
            go_big_quiet_skip
            go_big_quiet_skip
            go_big_quiet_skip
            go_big_quiet_skip
            go_big_quiet_skip
            go_big_quiet_skip
            go_big_quiet_skip
            go_big_quiet_skip
            go_big_quiet_skip
            go_big_quiet_skip
            go_big_quiet_skip
            go_big_quiet_want
            refine q_read (.bool false) (fun w' hw' => ?_) ?_
            · go_simp
            simp only [Act.put, List.setIfInBounds_toArray, List.set_cons_zero, List.set_cons_succ]
            go_big_quiet_on
            refine wpQuiet_nil ?_
            intro w' hw'
            have NB : Hid (Below wo.heap.size wo w') := HB.out.trans (hw'.mono hszi)
            go_wp2
            go_roundw
            case rel => exact ⟨i + 1, bo, by go_num, rfl, by omega, NC, NB⟩
            case measure => simp [intOf]; omega
          | false =>
            cases t with
            | false =>
              have NC : Hid (CandTo W H cs (i + 1) bo) := HCT.out.no (fun h => by have := h.2; rw [HT.out] at this; cases this)
              have KC : Hid (∀ w', Below wi.heap.size wi w' → w'.cell? ⟨g12, 0, none⟩ = some (.int .i64 (W : Int)) ∧ w'.cell? ⟨g12, 1, none⟩ = some (.int .i64 (H : Int)) ∧ w'.cell? ⟨g12, 2, none⟩ = some (.slice (some ⟨ga, 0, none⟩) N N) ∧ w'.cell? ⟨ga, i, none⟩ = some (.bool false) ∧ w'.cell? ⟨b, off + i, none⟩ = some (.float .f32 x) ∧ True ∧ True) := fun w' h => by
                obtain ⟨y0, y1, y2, y3, y4⟩ := K0.out w' h
                exact ⟨y0, y1, y2, y3, y4, trivial, trivial⟩
              clear HCT K0
              go_wp2
              refine wp_region_class (fun w' => Below wi.heap.size wi w') (by kernel_rfl) (by kernel_rfl) (Below.refl _ _).drew ?_
              go_big_quiet_want
              refine q_read (.pointer (some ⟨g12, 2, none⟩)) (fun w' hw' => ?_) ?_
              · go_simp
              simp only [Act.put, List.setIfInBounds_toArray, List.set_cons_zero, List.set_cons_succ]
              go_big_quiet_on
              go_big_quiet_want
              refine q_read (.slice (some ⟨ga, 0, none⟩) N N) (fun w' hw' => ?_) ?_
              · obtain ⟨y0, y1, y2, y3, y4, y5, y6⟩ := KC.out w' hw'
                go_simp
              simp only [Act.put, List.setIfInBounds_toArray, List.set_cons_zero, List.set_cons_succ]
              go_big_quiet_on
              go_big_quiet_want
              go_big_quiet_op
              go_big_quiet_on
              go_big_quiet_want
              refine q_read (.pointer (some ⟨ga, i, none⟩)) (fun w' hw' => ?_) ?_
              · go_simp
              simp only [Act.put, List.setIfInBounds_toArray, List.set_cons_zero, List.set_cons_succ]
              go_big_quiet_on
              go_big_quiet_want
              refine q_read (.bool false) (fun w' hw' => ?_) ?_
              · obtain ⟨y0, y1, y2, y3, y4, y5, y6⟩ := KC.out w' hw'
                go_simp
              simp only [Act.put, List.setIfInBounds_toArray, List.set_cons_zero, List.set_cons_succ]
              go_big_quiet_on
              go_big_quiet_want
              refine q_read (.bool true) (fun w' hw' => ?_) ?_
              · go_simp
              simp only [Act.put, List.setIfInBounds_toArray, List.set_cons_zero, List.set_cons_succ]
              go_big_quiet_on
              go_big_quiet_want
              go_big_quiet_op
              go_big_quiet_on
              go_big_quiet_want
              refine q_read (.agg #[.int .i64 (W : Int), .int .i64 (H : Int), .slice (some ⟨ga, 0, none⟩) N N]) (fun w' hw' => ?_) ?_
              · obtain ⟨y0, y1, y2, y3, y4, y5, y6⟩ := KC.out w' hw'
                go_simp
              simp only [Act.put, List.setIfInBounds_toArray, List.set_cons_zero, List.set_cons_succ]
              go_big_quiet_on
              go_big_quiet_want
              go_big_quiet_op
              go_big_quiet_on
              go_big_quiet_want
              refine q_call (.bool false) 40 #[.agg #[.int .i64 (W : Int), .int .i64 (H : Int), .slice (some ⟨ga, 0, none⟩) N N], .int .i64 (i : Int)] (fun w' hw' => ?_) (fun w' hw' => ?_) ?_
              · go_simp
              · exact (TC.out w' hw').mono fun e w'' h => ⟨h.1, hw'.trans (h.2.mono hw'.size)⟩
              simp only [Act.put, List.setIfInBounds_toArray, List.set_cons_zero, List.set_cons_succ]
              go_big_quiet_on
              go_big_quiet_want
              refine q_read (.bool false) (fun w' hw' => ?_) ?_
              · go_simp
              simp only [Act.put, List.setIfInBounds_toArray, List.set_cons_zero, List.set_cons_succ]
              go_big_quiet_on
              go_big_quiet_want
              go_big_quiet_op
              go_big_quiet_on
              go_big_quiet_skip
              go_big_quiet_skip
              go_big_quiet_skip
              go_big_quiet_skip
              go_big_quiet_skip
              go_big_quiet_skip
              go_big_quiet_skip
              go_big_quiet_skip
              go_big_quiet_skip
              go_big_quiet_skip
              go_big_quiet_skip
              go_big_quiet_skip
              go_big_quiet_skip
              go_big_quiet_want
              refine q_read (.bool false) (fun w' hw' => ?_) ?_
              · go_simp
              simp only [Act.put, List.setIfInBounds_toArray, List.set_cons_zero, List.set_cons_succ]
              go_big_quiet_on
              refine wpQuiet_nil ?_
              intro w' hw'
              have NB : Hid (Below wo.heap.size wo w') := HB.out.trans (hw'.mono hszi)
              go_wp2
              go_roundw
              case rel => exact ⟨i + 1, bo, by go_num, rfl, by omega, NC, NB⟩
              case measure => simp [intOf]; omega
            | true =>
              have hcand : Cand W H cs i := ⟨HQ.out, HT.out⟩
              cases bo with
              | none =>
                have NC : Hid (CandTo W H cs (i + 1) (some i)) := CandTo.yes hcand
                have hb1 : bestI none = -1 := rfl
                rw [hb1]
                have KC : Hid (∀ w', Below wi.heap.size wi w' → w'.cell? ⟨g12, 0, none⟩ = some (.int .i64 (W : Int)) ∧ w'.cell? ⟨g12, 1, none⟩ = some (.int .i64 (H : Int)) ∧ w'.cell? ⟨g12, 2, none⟩ = some (.slice (some ⟨ga, 0, none⟩) N N) ∧ w'.cell? ⟨ga, i, none⟩ = some (.bool false) ∧ w'.cell? ⟨b, off + i, none⟩ = some (.float .f32 x) ∧ True ∧ True) := fun w' h => by
                  obtain ⟨y0, y1, y2, y3, y4⟩ := K0.out w' h
                  exact ⟨y0, y1, y2, y3, y4, trivial, trivial⟩
                clear HCT K0 hcand hb1
                go_wp2
                refine wp_region_class (fun w' => Below wi.heap.size wi w') (by kernel_rfl) (by kernel_rfl) (Below.refl _ _).drew ?_
                go_big_quiet_want
                refine q_read (.pointer (some ⟨g12, 2, none⟩)) (fun w' hw' => ?_) ?_
                · go_simp
                simp only [Act.put, List.setIfInBounds_toArray, List.set_cons_zero, List.set_cons_succ]
                go_big_quiet_on
                go_big_quiet_want
                refine q_read (.slice (some ⟨ga, 0, none⟩) N N) (fun w' hw' => ?_) ?_
                · obtain ⟨y0, y1, y2, y3, y4, y5, y6⟩ := KC.out w' hw'
                  go_simp
                simp only [Act.put, List.setIfInBounds_toArray, List.set_cons_zero, List.set_cons_succ]
                go_big_quiet_on
                go_big_quiet_want
                go_big_quiet_op
                go_big_quiet_on
                go_big_quiet_want
                refine q_read (.pointer (some ⟨ga, i, none⟩)) (fun w' hw' => ?_) ?_
                · go_simp
                simp only [Act.put, List.setIfInBounds_toArray, List.set_cons_zero, List.set_cons_succ]
                go_big_quiet_on
                go_big_quiet_want
                refine q_read (.bool false) (fun w' hw' => ?_) ?_
                · obtain ⟨y0, y1, y2, y3, y4, y5, y6⟩ := KC.out w' hw'
                  go_simp
                simp only [Act.put, List.setIfInBounds_toArray, List.set_cons_zero, List.set_cons_succ]
                go_big_quiet_on
                go_big_quiet_want
                refine q_read (.bool true) (fun w' hw' => ?_) ?_
                · go_simp
                simp only [Act.put, List.setIfInBounds_toArray, List.set_cons_zero, List.set_cons_succ]
                go_big_quiet_on
                go_big_quiet_want
                go_big_quiet_op
                go_big_quiet_on
                go_big_quiet_want
                refine q_read (.agg #[.int .i64 (W : Int), .int .i64 (H : Int), .slice (some ⟨ga, 0, none⟩) N N]) (fun w' hw' => ?_) ?_
                · obtain ⟨y0, y1, y2, y3, y4, y5, y6⟩ := KC.out w' hw'
                  go_simp
                simp only [Act.put, List.setIfInBounds_toArray, List.set_cons_zero, List.set_cons_succ]
                go_big_quiet_on
                go_big_quiet_want
                go_big_quiet_op
                go_big_quiet_on
                go_big_quiet_want
                refine q_call (.bool true) 40 #[.agg #[.int .i64 (W : Int), .int .i64 (H : Int), .slice (some ⟨ga, 0, none⟩) N N], .int .i64 (i : Int)] (fun w' hw' => ?_) (fun w' hw' => ?_) ?_
                · go_simp
                · exact (TC.out w' hw').mono fun e w'' h => ⟨h.1, hw'.trans (h.2.mono hw'.size)⟩
                simp only [Act.put, List.setIfInBounds_toArray, List.set_cons_zero, List.set_cons_succ]
                go_big_quiet_on
                go_big_quiet_want
                refine q_read (.bool true) (fun w' hw' => ?_) ?_
                · go_simp
                simp only [Act.put, List.setIfInBounds_toArray, List.set_cons_zero, List.set_cons_succ]
                go_big_quiet_on
                go_big_quiet_want
                go_big_quiet_op
                go_big_quiet_on
                go_big_quiet_want
                go_big_quiet_op
                go_big_quiet_on
                go_big_quiet_want
                refine q_read (.bool true) (fun w' hw' => ?_) ?_
                · go_simp
                simp only [Act.put, List.setIfInBounds_toArray, List.set_cons_zero, List.set_cons_succ]
                go_big_quiet_on
                go_big_quiet_want
                go_big_quiet_op
                go_big_quiet_on
                go_big_quiet_skip
                go_big_quiet_skip
                go_big_quiet_skip
                go_big_quiet_skip
                go_big_quiet_skip
                go_big_quiet_skip
                go_big_quiet_skip
                go_big_quiet_skip
                go_big_quiet_skip
                go_big_quiet_want
                refine q_read (.bool true) (fun w' hw' => ?_) ?_
                · go_simp
                simp only [Act.put, List.setIfInBounds_toArray, List.set_cons_zero, List.set_cons_succ]
                go_big_quiet_on
                go_big_quiet_want
                refine q_read (.bool true) (fun w' hw' => ?_) ?_
                · go_simp
                simp only [Act.put, List.setIfInBounds_toArray, List.set_cons_zero, List.set_cons_succ]
                go_big_quiet_on
                refine wpQuiet_nil ?_
                intro w' hw'
                have NB : Hid (Below wo.heap.size wo w') := HB.out.trans (hw'.mono hszi)
                go_wp2
                go_roundw
                case rel => exact ⟨i + 1, some i, by go_num, rfl, by omega, NC, NB⟩
                case measure => simp [intOf]; omega
              | some m =>
                have hmi := HCT.out.1
                have hmL : m < xs.length := by rw [HL.out]; omega
                have hmN : (m : Int) < (N : Int) := by omega
                have hm0 : decide ((m : Int) < 0) = false := by simp
                have hb1 : bestI (some m) = (m : Int) := rfl
                rw [hb1]
                obtain ⟨y, hy⟩ : ∃ y, xs.getD m 0 = y := ⟨_, rfl⟩
                have KC : Hid (∀ w', Below wi.heap.size wi w' → w'.cell? ⟨g12, 0, none⟩ = some (.int .i64 (W : Int)) ∧ w'.cell? ⟨g12, 1, none⟩ = some (.int .i64 (H : Int)) ∧ w'.cell? ⟨g12, 2, none⟩ = some (.slice (some ⟨ga, 0, none⟩) N N) ∧ w'.cell? ⟨ga, i, none⟩ = some (.bool false) ∧ w'.cell? ⟨b, off + i, none⟩ = some (.float .f32 x) ∧ w'.cell? ⟨b, off + m, none⟩ = some (.float .f32 y) ∧ True) := fun w' h => by
                  obtain ⟨y0, y1, y2, y3, y4⟩ := K0.out w' h
                  refine ⟨y0, y1, y2, y3, y4, ?_, trivial⟩
                  rw [← hy]
                  exact ((hwwi.out.trans (h.mono (Nat.le_trans hszo hszi))).cell hbb).trans (rd_cellF (B := 0) (n := 0) HC.out hmL)
                obtain ⟨r, hr⟩ : ∃ r, (FloatKind.f32.format.order x y == some Ordering.lt) = r := ⟨_, rfl⟩
                cases r with
                | true =>
                  have NC : Hid (CandTo W H cs (i + 1) (some i)) := CandTo.yes hcand
                  clear HCT K0 hcand hb1 hy
                  go_wp2
                  refine wp_region_class (fun w' => Below wi.heap.size wi w') (by kernel_rfl) (by kernel_rfl) (Below.refl _ _).drew ?_
                  go_big_quiet_want
                  refine q_read (.pointer (some ⟨g12, 2, none⟩)) (fun w' hw' => ?_) ?_
                  · go_simp
                  simp only [Act.put, List.setIfInBounds_toArray, List.set_cons_zero, List.set_cons_succ]
                  go_big_quiet_on
                  go_big_quiet_want
                  refine q_read (.slice (some ⟨ga, 0, none⟩) N N) (fun w' hw' => ?_) ?_
                  · obtain ⟨y0, y1, y2, y3, y4, y5, y6⟩ := KC.out w' hw'
                    go_simp
                  simp only [Act.put, List.setIfInBounds_toArray, List.set_cons_zero, List.set_cons_succ]
                  go_big_quiet_on
                  go_big_quiet_want
                  go_big_quiet_op
                  go_big_quiet_on
                  go_big_quiet_want
                  refine q_read (.pointer (some ⟨ga, i, none⟩)) (fun w' hw' => ?_) ?_
                  · go_simp
                  simp only [Act.put, List.setIfInBounds_toArray, List.set_cons_zero, List.set_cons_succ]
                  go_big_quiet_on
                  go_big_quiet_want
                  refine q_read (.bool false) (fun w' hw' => ?_) ?_
                  · obtain ⟨y0, y1, y2, y3, y4, y5, y6⟩ := KC.out w' hw'
                    go_simp
                  simp only [Act.put, List.setIfInBounds_toArray, List.set_cons_zero, List.set_cons_succ]
                  go_big_quiet_on
                  go_big_quiet_want
                  refine q_read (.bool true) (fun w' hw' => ?_) ?_
                  · go_simp
                  simp only [Act.put, List.setIfInBounds_toArray, List.set_cons_zero, List.set_cons_succ]
                  go_big_quiet_on
                  go_big_quiet_want
                  go_big_quiet_op
                  go_big_quiet_on
                  go_big_quiet_want
                  refine q_read (.agg #[.int .i64 (W : Int), .int .i64 (H : Int), .slice (some ⟨ga, 0, none⟩) N N]) (fun w' hw' => ?_) ?_
                  · obtain ⟨y0, y1, y2, y3, y4, y5, y6⟩ := KC.out w' hw'
                    go_simp
                  simp only [Act.put, List.setIfInBounds_toArray, List.set_cons_zero, List.set_cons_succ]
                  go_big_quiet_on
                  go_big_quiet_want
                  go_big_quiet_op
                  go_big_quiet_on
                  go_big_quiet_want
                  refine q_call (.bool true) 40 #[.agg #[.int .i64 (W : Int), .int .i64 (H : Int), .slice (some ⟨ga, 0, none⟩) N N], .int .i64 (i : Int)] (fun w' hw' => ?_) (fun w' hw' => ?_) ?_
                  · go_simp
                  · exact (TC.out w' hw').mono fun e w'' h => ⟨h.1, hw'.trans (h.2.mono hw'.size)⟩
                  simp only [Act.put, List.setIfInBounds_toArray, List.set_cons_zero, List.set_cons_succ]
                  go_big_quiet_on
                  go_big_quiet_want
                  refine q_read (.bool true) (fun w' hw' => ?_) ?_
                  · go_simp
                  simp only [Act.put, List.setIfInBounds_toArray, List.set_cons_zero, List.set_cons_succ]
                  go_big_quiet_on
                  go_big_quiet_want
                  go_big_quiet_op
                  go_big_quiet_on
                  go_big_quiet_want
                  go_big_quiet_op
                  go_big_quiet_on
                  go_big_quiet_want
                  refine q_read (.bool false) (fun w' hw' => ?_) ?_
                  · go_simp
                  simp only [Act.put, List.setIfInBounds_toArray, List.set_cons_zero, List.set_cons_succ]
                  go_big_quiet_on
                  go_big_quiet_want
                  go_big_quiet_op
                  go_big_quiet_on
                  go_big_quiet_want
                  go_big_quiet_op
                  go_big_quiet_on
                  go_big_quiet_want
                  go_big_quiet_op
                  go_big_quiet_on
                  go_big_quiet_want
                  refine q_read (.pointer (some ⟨b, off + i, none⟩)) (fun w' hw' => ?_) ?_
                  · go_simp
                  simp only [Act.put, List.setIfInBounds_toArray, List.set_cons_zero, List.set_cons_succ]
                  go_big_quiet_on
                  go_big_quiet_want
                  refine q_read (.float .f32 x) (fun w' hw' => ?_) ?_
                  · obtain ⟨y0, y1, y2, y3, y4, y5, y6⟩ := KC.out w' hw'
                    go_simp
                  simp only [Act.put, List.setIfInBounds_toArray, List.set_cons_zero, List.set_cons_succ]
                  go_big_quiet_on
                  go_big_quiet_want
                  go_big_quiet_op
                  go_big_quiet_on
                  go_big_quiet_want
                  go_big_quiet_op
                  go_big_quiet_on
                  go_big_quiet_want
                  refine q_read (.pointer (some ⟨b, off + m, none⟩)) (fun w' hw' => ?_) ?_
                  · go_simp
                  simp only [Act.put, List.setIfInBounds_toArray, List.set_cons_zero, List.set_cons_succ]
                  go_big_quiet_on
                  go_big_quiet_want
                  refine q_read (.float .f32 y) (fun w' hw' => ?_) ?_
                  · obtain ⟨y0, y1, y2, y3, y4, y5, y6⟩ := KC.out w' hw'
                    go_simp
                  simp only [Act.put, List.setIfInBounds_toArray, List.set_cons_zero, List.set_cons_succ]
                  go_big_quiet_on
                  go_big_quiet_want
                  refine q_read (.bool true) (fun w' hw' => ?_) ?_
                  · go_simp
                  simp only [Act.put, List.setIfInBounds_toArray, List.set_cons_zero, List.set_cons_succ]
                  go_big_quiet_on
                  go_big_quiet_want
                  refine q_read (.bool true) (fun w' hw' => ?_) ?_
                  · go_simp
                  simp only [Act.put, List.setIfInBounds_toArray, List.set_cons_zero, List.set_cons_succ]
                  go_big_quiet_on
                  go_big_quiet_want
                  refine q_read (.bool true) (fun w' hw' => ?_) ?_
                  · go_simp
                  simp only [Act.put, List.setIfInBounds_toArray, List.set_cons_zero, List.set_cons_succ]
                  go_big_quiet_on
                  refine wpQuiet_nil ?_
                  intro w' hw'
                  have NB : Hid (Below wo.heap.size wo w') := HB.out.trans (hw'.mono hszi)
                  go_wp2
                  go_roundw
                  case rel => exact ⟨i + 1, some i, by go_num, rfl, by omega, NC, NB⟩
                  case measure => simp [intOf]; omega
                | false =>
                  have NC : Hid (CandTo W H cs (i + 1) (some m)) := HCT.out.keep
                  clear HCT K0 hcand hb1 hy
                  go_wp2
                  refine wp_region_class (fun w' => Below wi.heap.size wi w') (by kernel_rfl) (by kernel_rfl) (Below.refl _ _).drew ?_
                  go_big_quiet_want
                  refine q_read (.pointer (some ⟨g12, 2, none⟩)) (fun w' hw' => ?_) ?_
                  · go_simp
                  simp only [Act.put, List.setIfInBounds_toArray, List.set_cons_zero, List.set_cons_succ]
                  go_big_quiet_on
                  go_big_quiet_want
                  refine q_read (.slice (some ⟨ga, 0, none⟩) N N) (fun w' hw' => ?_) ?_
                  · obtain ⟨y0, y1, y2, y3, y4, y5, y6⟩ := KC.out w' hw'
                    go_simp
                  simp only [Act.put, List.setIfInBounds_toArray, List.set_cons_zero, List.set_cons_succ]
                  go_big_quiet_on
                  go_big_quiet_want
                  go_big_quiet_op
                  go_big_quiet_on
                  go_big_quiet_want
                  refine q_read (.pointer (some ⟨ga, i, none⟩)) (fun w' hw' => ?_) ?_
                  · go_simp
                  simp only [Act.put, List.setIfInBounds_toArray, List.set_cons_zero, List.set_cons_succ]
                  go_big_quiet_on
                  go_big_quiet_want
                  refine q_read (.bool false) (fun w' hw' => ?_) ?_
                  · obtain ⟨y0, y1, y2, y3, y4, y5, y6⟩ := KC.out w' hw'
                    go_simp
                  simp only [Act.put, List.setIfInBounds_toArray, List.set_cons_zero, List.set_cons_succ]
                  go_big_quiet_on
                  go_big_quiet_want
                  refine q_read (.bool true) (fun w' hw' => ?_) ?_
                  · go_simp
                  simp only [Act.put, List.setIfInBounds_toArray, List.set_cons_zero, List.set_cons_succ]
                  go_big_quiet_on
                  go_big_quiet_want
                  go_big_quiet_op
                  go_big_quiet_on
                  go_big_quiet_want
                  refine q_read (.agg #[.int .i64 (W : Int), .int .i64 (H : Int), .slice (some ⟨ga, 0, none⟩) N N]) (fun w' hw' => ?_) ?_
                  · obtain ⟨y0, y1, y2, y3, y4, y5, y6⟩ := KC.out w' hw'
                    go_simp
                  simp only [Act.put, List.setIfInBounds_toArray, List.set_cons_zero, List.set_cons_succ]
                  go_big_quiet_on
                  go_big_quiet_want
                  go_big_quiet_op
                  go_big_quiet_on
                  go_big_quiet_want
                  refine q_call (.bool true) 40 #[.agg #[.int .i64 (W : Int), .int .i64 (H : Int), .slice (some ⟨ga, 0, none⟩) N N], .int .i64 (i : Int)] (fun w' hw' => ?_) (fun w' hw' => ?_) ?_
                  · go_simp
                  · exact (TC.out w' hw').mono fun e w'' h => ⟨h.1, hw'.trans (h.2.mono hw'.size)⟩
                  simp only [Act.put, List.setIfInBounds_toArray, List.set_cons_zero, List.set_cons_succ]
                  go_big_quiet_on
                  go_big_quiet_want
                  refine q_read (.bool true) (fun w' hw' => ?_) ?_
                  · go_simp
                  simp only [Act.put, List.setIfInBounds_toArray, List.set_cons_zero, List.set_cons_succ]
                  go_big_quiet_on
                  go_big_quiet_want
                  go_big_quiet_op
                  go_big_quiet_on
                  go_big_quiet_want
                  go_big_quiet_op
                  go_big_quiet_on
                  go_big_quiet_want
                  refine q_read (.bool false) (fun w' hw' => ?_) ?_
                  · go_simp
                  simp only [Act.put, List.setIfInBounds_toArray, List.set_cons_zero, List.set_cons_succ]
                  go_big_quiet_on
                  go_big_quiet_want
                  go_big_quiet_op
                  go_big_quiet_on
                  go_big_quiet_want
                  go_big_quiet_op
                  go_big_quiet_on
                  go_big_quiet_want
                  go_big_quiet_op
                  go_big_quiet_on
                  go_big_quiet_want
                  refine q_read (.pointer (some ⟨b, off + i, none⟩)) (fun w' hw' => ?_) ?_
                  · go_simp
                  simp only [Act.put, List.setIfInBounds_toArray, List.set_cons_zero, List.set_cons_succ]
                  go_big_quiet_on
                  go_big_quiet_want
                  refine q_read (.float .f32 x) (fun w' hw' => ?_) ?_
                  · obtain ⟨y0, y1, y2, y3, y4, y5, y6⟩ := KC.out w' hw'
                    go_simp
                  simp only [Act.put, List.setIfInBounds_toArray, List.set_cons_zero, List.set_cons_succ]
                  go_big_quiet_on
                  go_big_quiet_want
                  go_big_quiet_op
                  go_big_quiet_on
                  go_big_quiet_want
                  go_big_quiet_op
                  go_big_quiet_on
                  go_big_quiet_want
                  refine q_read (.pointer (some ⟨b, off + m, none⟩)) (fun w' hw' => ?_) ?_
                  · go_simp
                  simp only [Act.put, List.setIfInBounds_toArray, List.set_cons_zero, List.set_cons_succ]
                  go_big_quiet_on
                  go_big_quiet_want
                  refine q_read (.float .f32 y) (fun w' hw' => ?_) ?_
                  · obtain ⟨y0, y1, y2, y3, y4, y5, y6⟩ := KC.out w' hw'
                    go_simp
                  simp only [Act.put, List.setIfInBounds_toArray, List.set_cons_zero, List.set_cons_succ]
                  go_big_quiet_on
                  go_big_quiet_want
                  refine q_read (.bool false) (fun w' hw' => ?_) ?_
                  · go_simp
                  simp only [Act.put, List.setIfInBounds_toArray, List.set_cons_zero, List.set_cons_succ]
                  go_big_quiet_on
                  go_big_quiet_want
                  refine q_read (.bool false) (fun w' hw' => ?_) ?_
                  · go_simp
                  simp only [Act.put, List.setIfInBounds_toArray, List.set_cons_zero, List.set_cons_succ]
                  go_big_quiet_on
                  go_big_quiet_want
                  refine q_read (.bool false) (fun w' hw' => ?_) ?_
                  · go_simp
                  simp only [Act.put, List.setIfInBounds_toArray, List.set_cons_zero, List.set_cons_succ]
                  go_big_quiet_on
                  refine wpQuiet_nil ?_
                  intro w' hw'
                  have NB : Hid (Below wo.heap.size wo w') := HB.out.trans (hw'.mono hszi)
                  go_wp2
                  go_roundw
                  case rel => exact ⟨i + 1, some m, by go_num, rfl, by omega, NC, NB⟩
                  case measure => simp [intOf]; omega
        · obtain rfl : i = N := by omega
          cases bo with
          | none =>
            exfalso
            obtain ⟨j, hj, h1, h2⟩ := HI.out.more hW HP.out hkN
            exact HCT.out j hj ⟨h1, h2⟩
          | some m =>
            have hmi := HCT.out.1
            have hcm := HCT.out.2
            have hmN : (m : Int) < (i : Int) := by omega
            have hb1 : bestI (some m) = (m : Int) := rfl
            rw [hb1]
            have X1 := X.out.below HB.out X.out.lt
            have O1 := own_below O.out HB.out
            have R1 := own_below R.out HB.out
            have V1 := V.out.trans (HB.out.mono hszo)
            have d2 := X1.cell 2
            have cA := own_cellB' O1 hmi
            have fA : wi.frozen? ⟨ga, m, none⟩ = false := O1.frozenAt _
            have O2 : Hid ((wi.setCell ⟨ga, m, none⟩ (.bool true)).ownsRow w.heap.size 4 1 (.slice (some ⟨ga, 0, none⟩) i i) i ((cs.set m true).map bv)) := by
              rw [List.map_set]
              exact (O1.stored m (.bool true)).1
            have hgr := (O1.stored m (.bool true)).2
            have X2 : Hid (Blk (wi.setCell ⟨ga, m, none⟩ (.bool true)) g12 31 #[.int .i64 (W : Int), .int .i64 (H : Int), .slice (some ⟨ga, 0, none⟩) i i]) := X1.far (fun e => own_blk_ne O1 X1 (by decide) (by rw [e]; rfl)) _
            have R2 : Hid ((wi.setCell ⟨ga, m, none⟩ (.bool true)).ownsRow w.heap.size 2 1 (.slice Ao (k + 1) co) (k + 1) (ord.map nv)) := own_kept (u := .slice (some ⟨ga, 0, none⟩) i i) R1 hgr (Dis.types R1 O1 (by decide))
            have V2 : Hid (Below w.heap.size w (wi.setCell ⟨ga, m, none⟩ (.bool true))) := V1.grown hgr V1.size (fun j e => (O1.lt j e).1)
            have NI : Hid (Inv W H i at_ (k + 1 + 1) (ord ++ [m]) (cs.set m true)) := HI.out.step hmi hcm.1 hcm.2 (HNB.out m hmi)
            have hsz2 := V2.out.size
            have hk256 : k + 1 + 1 ≤ 256 := by omega
            clear X1 O1 R1 V1 hgr HCT hcm hb1 HI
            go_wp2_with (at_builtin; refine wpList_append_one (W := wi.setCell ⟨ga, m, none⟩ (.bool true)) rfl _ _ _ rfl w.heap.size 2 (.int .i64 0) 8 Try.underlying47 intInfo rfl Ao (k + 1) co _ rfl R2.out (.int .i64 (m : Int)) _ rfl (by simp) rfl (by unfold maxLen; omega) (by omega) hsz2 ?_; intro A9 c9 w9 ho9 hg9 hd9)
            have O9 := Lib.hid (own_kept O2.out hg9 (Dis.types O2.out R2.out (by decide)))
            have X9 := Lib.hid (X2.out.grown hg9 (own_blk_ne R2.out X2.out (by decide)))
            have V9 := Lib.hid (V2.out.grown hg9 hsz2 (fun j e => (R2.out.lt j e).1))
            have R9 : Hid (w9.ownsRow w.heap.size 2 1 (.slice A9 (k + 1 + 1) c9) (k + 1 + 1) ((ord ++ [m]).map nv)) := by rw [List.map_append]; exact ho9
            clear ho9 hg9 hd9
            go_roundw
            case rel => exact ⟨k + 1, ord ++ [m], cs.set m true, A9, c9, rfl, by go_num, by omega, NI, R9, O9, X9, V9⟩
            case measure => simp [intOf]; omega
    · obtain rfl : k = c1 := by omega
      have hcount : k + 1 = count := by omega
      rw [hcount] at HI R ⊢
      go_wp2
      go_ret2
      exact ⟨ord, cs, Ao, co, rfl, HI.out, R.out, V.out⟩
end Go.Proofs.Ytbkacmklgkgamaa

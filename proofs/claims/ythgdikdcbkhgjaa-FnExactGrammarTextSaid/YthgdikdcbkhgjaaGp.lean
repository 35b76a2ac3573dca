/- Walks: the laws' own functions on grammars: how large they are, their copies, whether two are the same. Conditions: as each says. -/
import Derived.Test.YthgdikdcbkhgjaaGv
import Derived.Test.YthgdikdcbkhgjaaEq
import Derived.WalkKit
namespace Go.Proofs.Ythgdikdcbkhgjaa
open Go.RowKit

/-- How large: -1 if too large; else at most what was left, less n. -/
def SzRes (left : Int) (n : Nat) (w : World) (e : Ending) (w' : World) : Prop := ∃ r : Int, e = .returned (.int .i64 r) ∧ -1 ≤ r ∧ r ≤ left ∧ (0 ≤ r → (n : Int) ≤ left) ∧ Below w.heap.size w w'

set_option maxHeartbeats 400000 in
theorem szRule_any (l t : ByteArray) (left : Int) (w : World) (hl : l.size ≤ maxLen) (ht : t.size ≤ maxLen) (h0 : 0 ≤ left) (h1 : left ≤ 1048576) :
    Calls Try.prog 35 #[.agg #[.string l, .string t], .int .i64 left] w (SzRes left 0 w) := by
  unfold maxLen at hl ht
  have HW : Hid (Below w.heap.size w (w.alloc (.cells #[.string l, .string t] 69))) := (Below.refl _ _).alloc (Nat.le_refl _) _
  by_cases a : left - l.size < 0
  · go_enter Try.func35, Try.ntmps35
    go_wp2
    go_ret
    exact ⟨-1, rfl, by omega, by omega, fun _ => by omega, HW.out⟩
  · by_cases b : left - l.size - t.size < 0
    · go_enter Try.func35, Try.ntmps35
      go_wp2
      go_ret
      exact ⟨-1, rfl, by omega, by omega, fun _ => by omega, HW.out⟩
    · go_enter Try.func35, Try.ntmps35
      go_wp2
      go_ret
      exact ⟨left - l.size - t.size, rfl, by omega, by omega, fun _ => by omega, HW.out⟩
set_option maxRecDepth 100000 in
set_option maxHeartbeats 1000000 in
theorem szRuleS_any (rs : List (ByteArray × ByteArray)) (A : Option Addr) (n c : Nat) (left : Int) (w : World) (hn : n ≤ maxLen) (hl : rs.length = n) (hf : Fits rs) (h0 : 0 ≤ left) (h1 : left ≤ 1048576) (hA : Rd w w.heap.size 2 A n (rcells rs)) :
    Calls Try.prog 24 #[.slice A n c, .int .i64 left] w (SzRes left n w) := by
  have HA := Lib.hid hA
  have HL := Lib.hid hl
  have HF := Lib.hid hf
  clear hA hl hf
  unfold maxLen at hn
  by_cases a : left - n < 0
  · go_enter Try.func24, Try.ntmps24
    go_wp2
    go_ret
    exact ⟨-1, rfl, by omega, by omega, fun _ => by omega, Below.refl _ _⟩
  · go_enter Try.func24, Try.ntmps24
    go_wp2
    go_loopw [1, 5] (fun sl si wr => ∃ (k : Nat) (x : Int), k ≤ n ∧ si = .int .i64 k ∧ sl = .int .i64 x ∧ 0 ≤ x ∧ x ≤ left ∧ Below w.heap.size w wr) (fun _ si _ => n - (intOf si).toNat)
    case atStart => exact ⟨0, left - n, Nat.zero_le _, rfl, rfl, by omega, by omega, Below.refl _ _⟩
    case round =>
      obtain ⟨k, x, hk, rfl, rfl, hx0, hx1, hb⟩ := hrel
      have hsz := hb.size
      have HB := Lib.hid hb
      by_cases hlt : k < n
      · obtain ⟨b, off, rfl, hbb, hc⟩ := HA.out.2 (by omega)
        obtain ⟨r, hr⟩ : ∃ r, rs[k]? = some r := ⟨_, List.getElem?_eq_getElem (by rw [HL.out]; exact hlt)⟩
        obtain ⟨q1, q2⟩ := rcells_get rs k r hr
        have e0 : wr.cell? ⟨b, off + k * 2, none⟩ = some (.string r.1) := (hb.cell hbb).trans (hc _ _ q1)
        have e1 : wr.cell? ⟨b, off + k * 2 + 1, none⟩ = some (.string r.2) := (hb.cell hbb).trans (hc _ _ q2)
        obtain ⟨f1, f2⟩ := HF.out k r hr
        have SC := Lib.hid (szRule_any r.1 r.2 x wr f1 f2 hx0 (by omega))
        clear hr hc q1 q2 f1 f2 hb
        go_wp2_with fail
        refine SC.out.mono ?_
        rintro e w1 ⟨y, rfl, hy0, hy1, _, hb1⟩
        have HB1 := Lib.hid (HB.out.trans (hb1.mono hsz))
        clear hb1
        by_cases hy : y < 0
        · go_wp2
          go_ret
          exact ⟨-1, rfl, by omega, by omega, fun _ => by omega, HB1.out⟩
        · go_wp2
          go_roundw
          case rel => exact ⟨k + 1, y, by omega, by go_num, rfl, by omega, by omega, HB1.out⟩
          case measure => simp [intOf]; omega
      · obtain rfl : k = n := by omega
        clear hb
        go_wp2
        go_ret
        exact ⟨x, rfl, by omega, by omega, fun _ => by omega, HB.out⟩
set_option maxRecDepth 100000 in
set_option maxHeartbeats 400000 in
theorem szGrammar_any (s0 : ByteArray) (rs : List (ByteArray × ByteArray)) (A : Option Addr) (n c : Nat) (w : World) (hs : s0.size ≤ maxLen) (hn : n ≤ maxLen) (hl : rs.length = n) (hf : Fits rs) (hA : Rd w w.heap.size 2 A n (rcells rs)) :
    Calls Try.prog 10 #[.agg #[.string s0, .slice A n c], .int .i64 1048576] w (SzRes 1048576 n w) := by
  have HW : Hid (Below w.heap.size w (w.alloc (.cells #[.string s0, .slice A n c] 40))) := (Below.refl _ _).alloc (Nat.le_refl _) _
  have HA := Lib.hid hA
  have hs' := hs
  unfold maxLen at hs'
  by_cases a : (1048576 : Int) - s0.size < 0
  · go_enter Try.func10, Try.ntmps10
    go_wp2
    go_ret
    exact ⟨-1, rfl, by omega, by omega, fun _ => by omega, HW.out⟩
  · have SC := Lib.hid (szRuleS_any rs A n c (1048576 - s0.size) (w.alloc (.cells #[.string s0, .slice A n c] 40)) hn hl hf (by omega) (by omega) ((HA.out.below HW.out).more (by simp)))
    clear hA hf
    go_enter Try.func10, Try.ntmps10
    go_wp2_with fail
    refine SC.out.mono ?_
    rintro e w1 ⟨y, rfl, hy0, hy1, hy2, hb1⟩
    have HB1 := Lib.hid (HW.out.trans (hb1.mono (by simp)))
    clear hb1
    by_cases hy : y < 0
    · go_wp2
      go_ret
      exact ⟨-1, rfl, by omega, by omega, fun _ => by omega, HB1.out⟩
    · go_wp2
      go_ret
      exact ⟨y, rfl, by omega, by omega, fun h => by have := hy2 h; omega, HB1.out⟩
set_option maxRecDepth 100000 in
set_option maxHeartbeats 400000 in
theorem toRule_any (l t : ByteArray) (w : World) : Calls Try.prog 38 #[.agg #[.string l, .string t]] w fun e w' => e = .returned (.agg #[.string l, .string t]) ∧ Below w.heap.size w w' := by
  go_enter Try.func38, Try.ntmps38
  go_wp2
  go_returns
  exact ⟨rfl, by go_grown⟩
theorem ruleInfo : (Try.prog.info? 62).map (fun i => (i.zero, i.size, i.bytes)) = some (some (.agg #[.string ⟨#[]⟩, .string ⟨#[]⟩]), 2, 32) := by kernel_rfl
def rcellAt (rs : List (ByteArray × ByteArray)) (j : Nat) : Value := (rcells rs).getD j (.string ⟨#[]⟩)
theorem rcellAt_of {rs : List (ByteArray × ByteArray)} {j : Nat} {v : Value} (h : (rcells rs)[j]? = some v) : rcellAt rs j = v := getD_of h
theorem filled_rcells (rs : List (ByteArray × ByteArray)) {zs : List Value} (h : zs.length = (rcells rs).length) : filled (rcellAt rs) zs.length zs = rcells rs := by
  rw [filled_all, h]
  refine List.ext_getElem (by simp) (fun i h1 h2 => ?_)
  simp only [List.getElem_map, List.getElem_range]
  exact rcellAt_of (List.getElem?_eq_getElem h2)

set_option maxRecDepth 100000 in
set_option maxHeartbeats 1000000 in
theorem toRuleS_any (rs : List (ByteArray × ByteArray)) (A : Option Addr) (n c : Nat) (w : World) (hn : n ≤ 1048576) (hl : rs.length = n) (hA : Rd w w.heap.size 2 A n (rcells rs)) :
    Calls Try.prog 27 #[.slice A n c] w fun e w' => ∃ A', e = .returned (.slice A' n n) ∧ w'.ownsRow w.heap.size 62 2 (.slice A' n n) n (rcells rs) ∧ Below w.heap.size w w' := by
  obtain ⟨i0, hi, hz0, hz1, hz2⟩ := info_parts ruleInfo
  have HA := Lib.hid hA
  have HL := Lib.hid hl
  clear hA hl
  go_enter Try.func27, Try.ntmps27
  go_wp2_with (at_make; refine wpList_make_full _ rfl _ _ _ rfl w.heap.size 62 i0 (.agg #[.string ⟨#[]⟩, .string ⟨#[]⟩]) 2 Try.underlying28 hi hz0 hz1 .i64 .i64 n n n rfl rfl rfl rfl (by rw [hz2]; omega) (by unfold maxLen; omega) (Nat.le_refl _) ?_; intro w1 ho1 hg1)
  have hml : (madeCells (Value.agg #[.string ⟨#[]⟩, .string ⟨#[]⟩]).cells (n * 2)).toList.length = n * 2 := ho1.1
  generalize (madeCells (Value.agg #[.string ⟨#[]⟩, .string ⟨#[]⟩]).cells (n * 2)).toList = zs at *
  have HO1 := Lib.hid ho1
  have HB1 := Lib.hid (below_of_grown (B := w.heap.size) hg1 (Nat.le_refl _) (by simp))
  clear ho1 hg1
  go_loopw [4] (fun i wr => ∃ j : Nat, j ≤ n ∧ i = .int .i64 j ∧ wr.ownsRow w.heap.size 62 2 (.slice (some ⟨w.heap.size, 0, none⟩) n n) n (filled (rcellAt rs) (2 * j) zs) ∧ Below w.heap.size w wr) (fun i _ => n - (intOf i).toNat)
  case atStart => exact ⟨0, Nat.zero_le _, rfl, by simpa [filled_zero] using HO1.out, HB1.out⟩
  case round =>
    clear HO1 HB1
    obtain ⟨j, hj, rfl, ho, hb⟩ := hrel
    have hsz := hb.size
    have HB := Lib.hid hb
    have HO := Lib.hid ho
    clear ho
    by_cases hlt : j < n
    · obtain ⟨b, off, rfl, hbb, hc⟩ := HA.out.2 (by omega)
      obtain ⟨r, hr⟩ : ∃ r, rs[j]? = some r := ⟨_, List.getElem?_eq_getElem (by rw [HL.out]; exact hlt)⟩
      obtain ⟨q1, q2⟩ := rcells_get rs j r hr
      have e0 : wr.cell? ⟨b, off + j * 2, none⟩ = some (.string r.1) := (hb.cell hbb).trans (hc _ _ q1)
      have e1 : wr.cell? ⟨b, off + j * 2 + 1, none⟩ = some (.string r.2) := (hb.cell hbb).trans (hc _ _ q2)
      have Q := Lib.hid (And.intro (rcellAt_of q1) (rcellAt_of q2))
      obtain ⟨l, t⟩ := r
      simp only at e0 e1 Q
      clear hc hr q1 q2 hb
      go_wp2_with fail
      refine (toRule_any _ _ _).mono ?_
      rintro e w1 ⟨rfl, hb1⟩
      have ho1 := own_below HO.out hb1
      have hbw := HB.out.trans (hb1.mono hsz)
      have f1 : 2 * j < (filled (rcellAt rs) (2 * j) zs).length := by rw [filled_len _ (by omega)]; omega
      have f2 : 2 * j + 1 < (filled (rcellAt rs) (2 * j) zs).length := by rw [filled_len _ (by omega)]; omega
      have cA : w1.cell? ⟨w.heap.size, j * 2, none⟩ = some (filled (rcellAt rs) (2 * j) zs)[2 * j] := by
        rw [ho1.cellAt _ (by omega), show j * 2 = 2 * j from by omega, List.getElem?_eq_getElem f1]
      have cB : w1.cell? ⟨w.heap.size, j * 2 + 1, none⟩ = some (filled (rcellAt rs) (2 * j) zs)[2 * j + 1] := by
        rw [ho1.cellAt _ (by omega), show j * 2 + 1 = 2 * j + 1 from by omega, List.getElem?_eq_getElem f2]
      have fA : w1.frozen? ⟨w.heap.size, j * 2, none⟩ = false := ho1.frozenAt _
      have fB : w1.frozen? ⟨w.heap.size, j * 2 + 1, none⟩ = false := ho1.frozenAt _
      obtain ⟨ho2, hg2⟩ := ho1.stored (j * 2) (.string l)
      obtain ⟨ho3, hg3⟩ := ho2.stored (j * 2 + 1) (.string t)
      rw [show (filled (rcellAt rs) (2 * j) zs).set (j * 2) (.string l) = filled (rcellAt rs) (2 * j + 1) zs from by
            rw [show j * 2 = 2 * j from by omega]
            exact filled_set _ (by omega) _ (by rw [show 2 * j = j * 2 from by omega]; exact Q.out.1.symm),
          show (filled (rcellAt rs) (2 * j + 1) zs).set (j * 2 + 1) (.string t) = filled (rcellAt rs) (2 * j + 1 + 1) zs from by
            rw [show j * 2 + 1 = 2 * j + 1 from by omega]
            exact filled_set _ (by omega) _ (by rw [show 2 * j + 1 = j * 2 + 1 from by omega]; exact Q.out.2.symm)] at ho3
      have HO3 := Lib.hid ho3
      have HB3 := Lib.hid ((hbw.grown hg2 hbw.size (by simp)).grown hg3 (by have := (hbw.grown hg2 hbw.size (by simp)).size; exact this) (by simp))
      clear ho1 ho2 hg2 hg3 ho3 hbw hb1
      generalize (filled (rcellAt rs) (2 * j) zs)[2 * j] = y1 at *
      generalize (filled (rcellAt rs) (2 * j) zs)[2 * j + 1] = y2 at *
      go_wp2
      go_roundw
      case rel => exact ⟨j + 1, by omega, by go_num, by rw [show 2 * (j + 1) = 2 * j + 1 + 1 from by omega]; exact HO3.out, HB3.out⟩
      case measure => simp [intOf]; omega
    · obtain rfl : j = n := by omega
      have e : filled (rcellAt rs) (2 * j) zs = rcells rs := by
        have h := filled_rcells rs (zs := zs) (by rw [hml, rcells_len, HL.out])
        rw [hml, Nat.mul_comm] at h
        exact h
      have E := Lib.hid e
      clear e
      go_wp2
      go_ret
      exact ⟨_, rfl, by rw [← E.out]; exact HO.out, HB.out⟩
set_option maxRecDepth 100000 in
set_option maxHeartbeats 400000 in
theorem toGrammar_any (s0 : ByteArray) (rs : List (ByteArray × ByteArray)) (A : Option Addr) (n c : Nat) (w : World) (hn : n ≤ 1048576) (hl : rs.length = n) (hA : Rd w w.heap.size 2 A n (rcells rs)) :
    Calls Try.prog 12 #[.agg #[.string s0, .slice A n c]] w fun e w' => ∃ A', e = .returned (.agg #[.string s0, .slice A' n n]) ∧ w'.ownsRow w.heap.size 62 2 (.slice A' n n) n (rcells rs) ∧ Below w.heap.size w w' := by
  have hb0 : ∀ o o' o'', Below w.heap.size w (((w.alloc o).alloc o').alloc o'') := fun o o' o'' => (((Below.refl _ _).alloc (Nat.le_refl _) _).alloc (by simp) _).alloc (by simp; omega) _
  have H0 := Lib.hid hb0
  clear hb0
  go_enter Try.func12, Try.ntmps12
  go_wp2_with fail
  refine (toRuleS_any rs A n c _ hn hl ((hA.below (H0.out _ _ _)).more (by simp; omega))).mono ?_
  rintro e w1 ⟨A', rfl, ho, hb1⟩
  have ka : Blk w1 (w.heap.size + 1) 30 #[.string ⟨#[]⟩, .slice none 0 0] := Blk.below ((Blk.at_ _ _ _ (by simp)).alloc _) hb1 (by simp)
  have kb : Blk w1 (w.heap.size + 1 + 1) 30 #[.string s0, .slice none 0 0] := Blk.below (Blk.at_ _ _ _ (by simp)) hb1 (by simp)
  have hz1 := hb1.size
  simp only [World.size_alloc] at hz1
  have W1 := Lib.hid ((H0.out _ _ _).trans (hb1.mono (by simp; omega)))
  have HO := Lib.hid ho
  clear ho hb1
  go_wp2_with (first
    | (refine wpList_store_blk rfl _ _ _ rfl (w.heap.size + 1 + 1) 1 rfl _ rfl [.slice A' n n] rfl 30 _ #[.string s0, .slice A' n n] kb (by kernel_rfl) (by simp) (by simp [Value.oneCell']) rfl ?_; intro w2 k2 g2
       have ka2 := ka.grown g2 (by simp))
    | (refine wpList_load_blk rfl _ _ rfl (w.heap.size + 1 + 1) 0 rfl 30 _ k2 [.string s0, .slice A' n n] rfl _ Try.underlying30 rfl (by kernel_rfl) ?_)
    | (refine wpList_store_blk rfl _ _ _ rfl (w.heap.size + 1) 0 rfl _ rfl [.string s0, .slice A' n n] rfl 30 _ #[.string s0, .slice A' n n] ka2 (by kernel_rfl) (by simp) (by simp [Value.oneCell']) rfl ?_; intro w3 k3 g3)
    | fail)
  refine bodyPost_ret (results_cell_row rfl _ w3 (w.heap.size + 1) 30 _ (0, 0) _ rfl k3 Try.underlying30 rfl (by kernel_rfl)) rfl ?_
  have hz2 := g2.size
  exact ⟨A', rfl, own_base (own_grown (own_grown HO.out g2 (by simp)) g3 (by simp)) (by simp; omega), (W1.out.grown g2 (by omega) (by simp; omega)).grown g3 (by omega) (by simp)⟩
set_option maxRecDepth 100000 in
set_option maxHeartbeats 400000 in
theorem eqGrammar_same (s0 : ByteArray) (rs : List (ByteArray × ByteArray)) (A A' : Option Addr) (n c c' : Nat) (w : World) (hn : n ≤ maxLen)
    (hA : Rd w w.heap.size 2 A n (rcells rs)) (hA' : Rd w w.heap.size 2 A' n (rcells rs)) :
    Calls Try.prog 14 #[.agg #[.string s0, .slice A n c], .agg #[.string s0, .slice A' n c']] w fun e w' => e = .returned (.bool true) ∧ Below w.heap.size w w' := by
  have hb0 : ∀ o o', Below w.heap.size w ((w.alloc o).alloc o') := fun o o' => ((Below.refl _ _).alloc (Nat.le_refl _) _).alloc (by simp) _
  have H0 := Lib.hid hb0
  clear hb0
  have h1 : (!s0.toList == s0.toList) = false := by simp
  go_enter Try.func14, Try.ntmps14
  go_wp2_with fail
  refine (eqRuleS_same A A' n c c' (rcells rs) _ hn (rcells_all rs) ((hA.below (H0.out _ _)).more (by simp; omega)) ((hA'.below (H0.out _ _)).more (by simp; omega))).mono ?_
  rintro e w1 ⟨rfl, hb1⟩
  go_wp2
  go_ret
  exact ⟨rfl, (H0.out _ _).trans (hb1.mono (by simp; omega))⟩
end Go.Proofs.Ythgdikdcbkhgjaa

/- Walks: a text's lines and how many are errors, by the reference and by the program. Conditions: texts are at most 2^20 bytes long; the library's own size variable holds a number. -/
import Derived.Test.YthgdikdcbkhgjaaDoorCv
import Derived.Test.YthgdikdcbkhgjaaDoorShelf
import Derived.StillTailTactics
import Derived.Deep.QuietTactic
namespace Go.Proofs.YthgdikdcbkhgjaaDoor
open Go.RowKit

theorem ne_list {x : ByteArray} {l : List UInt8} (h : x ≠ ⟨l.toArray⟩) : ¬ x.toList = l := by
  rw [ByteArray.toList_eq]
  intro e
  apply h
  apply ByteArray.ext
  apply Array.ext'
  exact e
theorem parts_ne (s : ByteArray) : 1 ≤ (partsB s).length := by rw [parts_len]; omega
/-- A text's lines: the parts but for the last one. -/
def linesB (s : ByteArray) : List ByteArray := (partsB s).take ((partsB s).length - 1)
def restB (s : ByteArray) : ByteArray := (partsB s).getD ((partsB s).length - 1) ⟨#[]⟩
theorem lines_len (s : ByteArray) : (linesB s).length = (partsB s).length - 1 := by unfold linesB; rw [List.length_take]; omega
theorem rest_get (s : ByteArray) : (partsB s)[(partsB s).length - 1]? = some (restB s) := by
  have := parts_ne s
  unfold restB
  rw [List.getD_eq_getElem?_getD, List.getElem?_eq_getElem (by omega)]
  rfl
theorem lines_get {s : ByteArray} {k : Nat} {x : ByteArray} (h : (linesB s)[k]? = some x) : (partsB s)[k]? = some x := by
  have hk := (List.getElem?_eq_some_iff.1 h).1
  rw [lines_len] at hk
  unfold linesB at h
  rwa [List.getElem?_take_of_lt hk] at h
theorem parts_le (s : ByteArray) : (partsB s).length ≤ s.size + 1 := by
  rw [parts_len]
  have := Lib.countB_le sepN (Nat.le_refl _) s.size s (Nat.le_refl _)
  omega
def badL (x : ByteArray) : Bool := decide (x = ⟨#[110, 111]⟩) || decide (x = ⟨#[119, 104, 97, 116]⟩)
def badN (l : List ByteArray) : Nat := (l.filter badL).length
theorem badN_succ {l : List ByteArray} {k : Nat} {x : ByteArray} (h : l[k]? = some x) : badN (l.take (k + 1)) = badN (l.take k) + (if badL x = true then 1 else 0) := by
  unfold badN
  rw [List.take_add_one, h, List.filter_append, List.length_append]
  cases hb : badL x <;> simp [hb]
theorem badN_le (l : List ByteArray) : badN l ≤ l.length := List.length_filter_le _ _
/-- What counting gives. -/
def cntT (s : ByteArray) : Ending := .returned (.tuple (if s.size ≤ 16000 ∧ restB s = ⟨#[]⟩ then #[.int .i64 (badN (linesB s) : Nat), .int .i64 (((linesB s).length : Int) - (badN (linesB s) : Int)), .bool true] else #[.int .i64 0, .int .i64 0, .bool false]))
theorem own_cap'' {w : World} {base g n c : Nat} {e : TypeId} {xs : List Value} (h : w.ownsRow base e 1 (.slice (some ⟨g, 0, none⟩) n c) n xs) : n ≤ c := by
  rcases h.2 with ⟨h', _⟩ | ⟨g', cap, cur, hv, hb, hh, hn, hx, hs, ht⟩
  · simp at h'
  · injection hv with _ _ h3
    omega
/-- The lines read from memory. -/
def LnR (w : World) (A : Option Addr) (s : ByteArray) : Prop := Rd w w.heap.size 1 A (linesB s).length ((linesB s).map Value.string)
set_option maxRecDepth 100000 in
set_option maxHeartbeats 2000000 in
theorem l08Lines_any (s : ByteArray) (w : World) (hs : s.size ≤ 1048576) : Calls Tryd.prog 31 #[.string s] w fun e w' => ∃ A c, e = .returned (.tuple #[.slice A (linesB s).length c, .string (restB s)]) ∧ LnR w' A s ∧ Below w.heap.size w w' := by
  have CC := Lib.hid (l01Cut_any s w hs)
  have hp1 := parts_ne s
  have hp2 := parts_le s
  have HLL := Lib.hid (lines_len s)
  have HRG := Lib.hid (rest_get s)
  obtain ⟨N, eN⟩ : ∃ N, (partsB s).length = N := ⟨_, rfl⟩
  rw [eN] at CC hp1 hp2 HLL HRG
  have EN := Lib.hid eN
  clear eN
  go_enter Tryd.func31, Tryd.ntmps31
  go_wp2_with fail
  refine CC.out.mono ?_
  rintro e w1 ⟨A, c, rfl, ho, hb⟩
  obtain ⟨g, cap, hv, _, hgl⟩ := ho.form (by omega)
  obtain ⟨rfl, rfl⟩ : A = some ⟨g, 0, none⟩ ∧ c = cap := by injection hv with h1 _ h3; exact ⟨h1, h3⟩
  obtain ⟨M, rfl⟩ : ∃ M, N = M + 1 := ⟨N - 1, by omega⟩
  have cR : w1.cell? ⟨g, M, none⟩ = some (.string (restB s)) := by
    rw [ho.cellAt _ (by omega), List.getElem?_map]
    have := HRG.out
    rw [Nat.add_sub_cancel] at this
    rw [this]; rfl
  have HO := Lib.hid ho
  have HB := Lib.hid hb
  have hM : ((M + 1 : Nat) : Int) - 1 = (M : Int) := by omega
  have hM2 : (M : Int) + 1 - 1 = (M : Int) := by omega
  have hcap : M + 1 ≤ c := own_cap'' ho
  clear ho hb hv
  have hcapi : (M : Int) ≤ (c : Int) := by omega
  go_wp2
  go_region
  go_wp2
  go_ret2
  have hL : (linesB s).length = M := by rw [HLL.out]; omega
  refine ⟨some ⟨g, 0, none⟩, c, by rw [hL]; rfl, ?_, below_drewN' HB.out _⟩
  show Rd w1 w1.heap.size 1 (some ⟨g, 0, none⟩) (linesB s).length ((linesB s).map Value.string)
  refine ⟨by simp, fun _ => ⟨g, 0, rfl, hgl, fun j u hu => ?_⟩⟩
  rw [List.getElem?_map] at hu
  cases hj : (linesB s)[j]? with
  | none => rw [hj] at hu; cases hu
  | some x =>
    rw [hj] at hu
    injection hu with hu
    have hjl := (List.getElem?_eq_some_iff.1 hj).1
    rw [Nat.zero_add, HO.out.cellAt _ (by omega), List.getElem?_map, lines_get hj, ← hu]
    rfl
set_option maxRecDepth 100000 in
set_option maxHeartbeats 4000000 in
theorem specCount_any (s : ByteArray) (w : World) (hs : s.size ≤ 1048576) : Calls Tryd.prog 12 #[.string s] w fun e w' => e = cntT s ∧ Below w.heap.size w w' := by
  by_cases h16 : s.size ≤ 16000
  · have LC := Lib.hid (l08Lines_any s w hs)
    by_cases hr : restB s = ⟨#[]⟩
    · have HE : Hid (cntT s = .returned (.tuple #[.int .i64 (badN (linesB s) : Nat), .int .i64 (((linesB s).length : Int) - (badN (linesB s) : Int)), .bool true])) := by
        unfold Hid cntT
        rw [if_pos ⟨h16, hr⟩]
      have hnl : (linesB s).length ≤ 1048576 := by rw [lines_len]; have := parts_le s; omega
      obtain ⟨n, en⟩ : ∃ n, (linesB s).length = n := ⟨_, rfl⟩
      unfold LnR at LC
      rw [en] at LC HE hnl
      have EN := Lib.hid en
      rw [hr] at LC
      clear hr en
      go_enter Tryd.func12, Tryd.ntmps12
      go_wp2_with fail
      refine LC.out.mono ?_
      rintro e w1 ⟨A, c, rfl, hR, hb⟩
      have HR := Lib.hid hR
      have HB := Lib.hid hb
      clear hR hb
      go_wp2
      go_loopw [7, 8] (fun sb si wr => ∃ k m : Nat, k ≤ n ∧ si = .int .i64 k ∧ sb = .int .i64 ((badN ((linesB s).take k) : Nat) : Int) ∧ wr = w1.drewN m) (fun _ si _ => n - (intOf si).toNat)
      case atStart => exact ⟨0, 0, Nat.zero_le _, rfl, rfl, rfl⟩
      case round =>
        obtain ⟨k, m, hk, rfl, rfl, hw⟩ := hrel
        have hbl : badN ((linesB s).take k) ≤ k := by have := badN_le ((linesB s).take k); rw [List.length_take] at this; omega
        by_cases hlt : k < n
        · obtain ⟨b, off, rfl, hbb, hc⟩ := HR.out.2 (by omega)
          obtain ⟨x, hx⟩ : ∃ x, (linesB s)[k]? = some x := ⟨_, List.getElem?_eq_getElem (by rw [EN.out]; exact hlt)⟩
          have cX : wr.cell? ⟨b, off + k, none⟩ = some (.string x) := by rw [hw]; exact hc _ _ (by rw [List.getElem?_map, hx]; rfl)
          have HS := Lib.hid (badN_succ hx)
          obtain ⟨q, hq⟩ : ∃ q, badN ((linesB s).take k) = q := ⟨_, rfl⟩
          rw [hq] at HS hbl ⊢
          have HW := Lib.hid hw
          have hkn : (k : Int) < (n : Int) := by omega
          clear hc hx hw hq
          by_cases h1 : x = ⟨#[110, 111]⟩
          · have HS2 : Hid (badN ((linesB s).take (k + 1)) = q + 1) := by unfold Hid; rw [HS.out, if_pos (by unfold badL; simp [h1])]
            subst h1
            go_wp2
            go_roundw
            case rel => exact ⟨k + 1, m, by omega, by go_num, by rw [HS2.out]; go_num, HW.out⟩
            case measure => simp [intOf]; omega
          · by_cases h2 : x = ⟨#[119, 104, 97, 116]⟩
            · have HS2 : Hid (badN ((linesB s).take (k + 1)) = q + 1) := by unfold Hid; rw [HS.out, if_pos (by unfold badL; simp [h2])]
              subst h2
              go_wp2
              go_roundw
              case rel => exact ⟨k + 1, m, by omega, by go_num, by rw [HS2.out]; go_num, HW.out⟩
              case measure => simp [intOf]; omega
            · have HS2 : Hid (badN ((linesB s).take (k + 1)) = q) := by unfold Hid; rw [HS.out, if_neg (by unfold badL; simp [h1, h2]), Nat.add_zero]
              have e1 : ¬ x.toList = [110, 111] := ne_list h1
              have e2 : ¬ x.toList = [119, 104, 97, 116] := ne_list h2
              have e3 : (x.toList == [110, 111]) = false := by simpa using e1
              have e4 : (x.toList == [119, 104, 97, 116]) = false := by simpa using e2
              clear h1 h2
              go_wp2
              go_roundw
              case rel => exact ⟨k + 1, m, by omega, by go_num, by rw [HS2.out], HW.out⟩
              case measure => simp [intOf]; omega
        · obtain rfl : k = n := by omega
          have HT : Hid ((linesB s).take k = linesB s) := List.take_of_length_le (by rw [EN.out]; exact Nat.le_refl _)
          have HW : Hid (Below w.heap.size w wr) := by unfold Hid; rw [hw]; exact below_drewN' HB.out m
          clear hw
          go_wp2
          go_ret3
          exact ⟨by rw [HE.out, HT.out]; rfl, HW.out⟩
    · have HE : Hid (cntT s = .returned (.tuple #[.int .i64 0, .int .i64 0, .bool false])) := by
        unfold Hid cntT
        rw [if_neg (fun h => hr h.2)]
      have hq0 : ¬ (restB s).toList = [] := ne_list hr
      have hq : (!(restB s).toList.isEmpty) = true := by simpa using hq0
      obtain ⟨r, er⟩ : ∃ r, restB s = r := ⟨_, rfl⟩
      rw [er] at LC hq
      clear hr er hq0
      go_enter Tryd.func12, Tryd.ntmps12
      go_wp2_with fail
      refine LC.out.mono ?_
      rintro e w1 ⟨A, c, rfl, hR, hb⟩
      have HB := Lib.hid hb
      clear hR hb
      go_wp2
      go_ret3
      exact ⟨HE.out.symm, HB.out⟩
  · have HE : Hid (cntT s = .returned (.tuple #[.int .i64 0, .int .i64 0, .bool false])) := by
      unfold Hid cntT
      rw [if_neg (fun h => h16 h.1)]
    go_enter Tryd.func12, Tryd.ntmps12
    go_wp2
    go_ret3
    exact ⟨HE.out.symm, Below.refl _ _⟩
set_option maxRecDepth 100000 in
set_option maxHeartbeats 2000000 in
theorem linesOf_any (s : ByteArray) (w : World) (hs : s.size ≤ 1048576) (m0 : Int) (hm : w.cell? ⟨0, 0, none⟩ = some (.int .i64 m0)) : Calls Tryd.prog 32 #[.string s] w fun e w' => ∃ A c, e = .returned (.tuple #[.slice A (linesB s).length c, .bool (decide (s.size ≤ 16000) && decide (restB s = ⟨#[]⟩))]) ∧ LnR w' A s ∧ Below w.heap.size w w' := by
  have SP := Tryd.strings_Split s sepN m0 w (by omega) hm (Nat.le_refl _)
  have hp1 := parts_ne s
  have hp2 := parts_le s
  have hLL := lines_len s
  have hRG := rest_get s
  have hpl := parts_len s
  obtain ⟨M, eM⟩ : ∃ M, Lib.countB s sepN = M := ⟨_, rfl⟩
  rw [eM] at SP hpl
  rw [hpl] at hp1 hp2 hLL hRG
  rw [Nat.add_sub_cancel] at hLL hRG
  obtain ⟨w1, ew1⟩ : ∃ w1, w1 = w.alloc (.cells ((Lib.splitB sepN 0 M s).map Value.string).toArray 9) := ⟨_, rfl⟩
  rw [← ew1] at SP
  have hpB : Lib.splitB sepN 0 M s = partsB s := by unfold partsB; rw [eM]
  rw [hpB] at ew1
  have hk : Blk w1 w.heap.size 9 ((partsB s).map Value.string).toArray := by rw [ew1]; exact Blk.new _ _ _
  have hb : Below w.heap.size w w1 := by rw [ew1]; exact (Below.refl _ _).alloc (Nat.le_refl _) _
  have cR : w1.cell? ⟨w.heap.size, M, none⟩ = some (.string (restB s)) := by
    rw [hk.cell]
    simp [hRG]
  have SC := Lib.hid SP
  have HK := Lib.hid hk
  have HB := Lib.hid hb
  have HL := Lib.hid hLL
  have hM2 : (M : Int) + 1 - 1 = (M : Int) := by omega
  have hcapi : (M : Int) ≤ (M : Int) + 1 := by omega
  have HR : Hid (LnR w1 (some ⟨w.heap.size, 0, none⟩) s) := by
    refine ⟨by simp, fun _ => ⟨w.heap.size, 0, rfl, hk.lt, fun j u hu => ?_⟩⟩
    rw [List.getElem?_map] at hu
    cases hj : (linesB s)[j]? with
    | none => rw [hj] at hu; cases hu
    | some x =>
      rw [hj] at hu
      injection hu with hu
      rw [Nat.zero_add, hk.cell]
      simp [lines_get hj, ← hu]
  have esep : sepN = ⟨#[10]⟩ := rfl
  rw [esep] at SC
  clear SP hk hb ew1 hpB eM hRG hpl hLL hp1
  by_cases h16 : s.size ≤ 16000
  · by_cases hr : restB s = ⟨#[]⟩
    · rw [hr] at cR
      have HF : Hid ((decide (s.size ≤ 16000) && decide (restB s = ⟨#[]⟩)) = true) := by unfold Hid; simp [h16, hr]
      have h16i : decide ((s.size : Int) ≤ 16000) = true := by simp; omega
      clear hr
      go_enter Tryd.func32, Tryd.ntmps32
      go_wp2_with fail
      refine SC.out.mono ?_
      rintro e w2 ⟨rfl, hw2⟩
      obtain rfl := hw2.symm
      go_wp2
      go_region
      go_wp2
      go_ret2
      exact ⟨some ⟨w.heap.size, 0, none⟩, M + 1, by rw [HL.out, HF.out]; rfl, HR.out, HB.out.drew⟩
    · have HF : Hid ((decide (s.size ≤ 16000) && decide (restB s = ⟨#[]⟩)) = false) := by unfold Hid; simp [hr]
      have hq0 : ¬ (restB s).toList = [] := ne_list hr
      have h16i : decide ((s.size : Int) ≤ 16000) = true := by simp; omega
      obtain ⟨r, er⟩ : ∃ r, restB s = r := ⟨_, rfl⟩
      rw [er] at cR hq0
      have hq1 : r.toList.isEmpty = false := by simpa using hq0
      clear hr er
      go_enter Tryd.func32, Tryd.ntmps32
      go_wp2_with fail
      refine SC.out.mono ?_
      rintro e w2 ⟨rfl, hw2⟩
      obtain rfl := hw2.symm
      go_wp2
      go_region
      go_wp2
      go_ret2
      exact ⟨some ⟨w.heap.size, 0, none⟩, M + 1, by rw [HL.out, HF.out]; rfl, HR.out, HB.out.drew⟩
  · have HF : Hid ((decide (s.size ≤ 16000) && decide (restB s = ⟨#[]⟩)) = false) := by unfold Hid; simp [h16]
    have h16i : decide ((s.size : Int) ≤ 16000) = false := by simp; omega
    go_enter Tryd.func32, Tryd.ntmps32
    go_wp2_with fail
    refine SC.out.mono ?_
    rintro e w2 ⟨rfl, hw2⟩
    obtain rfl := hw2.symm
    go_wp2
    go_region
    go_wp2
    go_ret2
    exact ⟨some ⟨w.heap.size, 0, none⟩, M + 1, by rw [HL.out, HF.out]; rfl, HR.out, HB.out.drew⟩
set_option maxRecDepth 100000 in
set_option maxHeartbeats 4000000 in
theorem implCount_any (s : ByteArray) (w : World) (hs : s.size ≤ 1048576) (m0 : Int) (hm : w.cell? ⟨0, 0, none⟩ = some (.int .i64 m0)) : Calls Tryd.prog 13 #[.string s] w fun e w' => e = cntT s ∧ Below w.heap.size w w' := by
  have LC := Lib.hid (linesOf_any s w hs m0 hm)
  by_cases hok : s.size ≤ 16000 ∧ restB s = ⟨#[]⟩
  · have HE : Hid (cntT s = .returned (.tuple #[.int .i64 (badN (linesB s) : Nat), .int .i64 (((linesB s).length : Int) - (badN (linesB s) : Int)), .bool true])) := by
      unfold Hid cntT
      rw [if_pos hok]
    have HF : (decide (s.size ≤ 16000) && decide (restB s = ⟨#[]⟩)) = true := by simp [hok.1, hok.2]
    have hnl : (linesB s).length ≤ 1048576 := by rw [lines_len]; have := parts_le s; omega
    obtain ⟨n, en⟩ : ∃ n, (linesB s).length = n := ⟨_, rfl⟩
    unfold LnR at LC
    rw [en] at LC HE hnl
    have EN := Lib.hid en
    rw [HF] at LC
    clear HF en
    go_enter Tryd.func13, Tryd.ntmps13
    go_wp2_with fail
    refine LC.out.mono ?_
    rintro e w1 ⟨A, c, rfl, hR, hb⟩
    have HR := Lib.hid hR
    have HB := Lib.hid hb
    clear hR hb
    go_wp2
    go_loopw [7, 19] (fun sb si wr => ∃ k m : Nat, k ≤ n ∧ si = .int .i64 k ∧ sb = .int .i64 ((badN ((linesB s).take k) : Nat) : Int) ∧ wr = w1.drewN m) (fun _ si _ => n - (intOf si).toNat)
    case atStart => exact ⟨0, 0, Nat.zero_le _, rfl, rfl, rfl⟩
    case round =>
      obtain ⟨k, m, hk, rfl, rfl, hw⟩ := hrel
      have hbl : badN ((linesB s).take k) ≤ k := by have := badN_le ((linesB s).take k); rw [List.length_take] at this; omega
      by_cases hlt : k < n
      · obtain ⟨b, off, rfl, hbb, hc⟩ := HR.out.2 (by omega)
        obtain ⟨x, hx⟩ : ∃ x, (linesB s)[k]? = some x := ⟨_, List.getElem?_eq_getElem (by rw [EN.out]; exact hlt)⟩
        have cX : wr.cell? ⟨b, off + k, none⟩ = some (.string x) := by rw [hw]; exact hc _ _ (by rw [List.getElem?_map, hx]; rfl)
        have HS := Lib.hid (badN_succ hx)
        obtain ⟨q, hq⟩ : ∃ q, badN ((linesB s).take k) = q := ⟨_, rfl⟩
        rw [hq] at HS hbl ⊢
        have HW := Lib.hid hw
        have hkn : (k : Int) < (n : Int) := by omega
        clear hc hx hw hq
        by_cases h1 : x = ⟨#[110, 111]⟩
        · have HS2 : Hid (badN ((linesB s).take (k + 1)) = q + 1) := by unfold Hid; rw [HS.out, if_pos (by unfold badL; simp [h1])]
          subst h1
          go_wp2
          go_roundw
          case rel => exact ⟨k + 1, m, by omega, by go_num, by rw [HS2.out]; go_num, HW.out⟩
          case measure => simp [intOf]; omega
        · by_cases h2 : x = ⟨#[119, 104, 97, 116]⟩
          · have HS2 : Hid (badN ((linesB s).take (k + 1)) = q + 1) := by unfold Hid; rw [HS.out, if_pos (by unfold badL; simp [h2])]
            subst h2
            go_wp2
            go_roundw
            case rel => exact ⟨k + 1, m, by omega, by go_num, by rw [HS2.out]; go_num, HW.out⟩
            case measure => simp [intOf]; omega
          · have HS2 : Hid (badN ((linesB s).take (k + 1)) = q) := by unfold Hid; rw [HS.out, if_neg (by unfold badL; simp [h1, h2]), Nat.add_zero]
            have e1 : ¬ x.toList = [110, 111] := ne_list h1
            have e2 : ¬ x.toList = [119, 104, 97, 116] := ne_list h2
            have e3 : (x.toList == [110, 111]) = false := by simpa using e1
            have e4 : (x.toList == [119, 104, 97, 116]) = false := by simpa using e2
            clear h1 h2
            go_wp2
            go_roundw
            case rel => exact ⟨k + 1, m, by omega, by go_num, by rw [HS2.out], HW.out⟩
            case measure => simp [intOf]; omega
      · obtain rfl : k = n := by omega
        have HT : Hid ((linesB s).take k = linesB s) := List.take_of_length_le (by rw [EN.out]; exact Nat.le_refl _)
        have HW : Hid (Below w.heap.size w wr) := by unfold Hid; rw [hw]; exact below_drewN' HB.out m
        clear hw
        go_wp2
        go_ret3
        exact ⟨by rw [HE.out, HT.out]; rfl, HW.out⟩
  · have HE : Hid (cntT s = .returned (.tuple #[.int .i64 0, .int .i64 0, .bool false])) := by
      unfold Hid cntT
      rw [if_neg hok]
    have HF : (decide (s.size ≤ 16000) && decide (restB s = ⟨#[]⟩)) = false := by
      rw [Bool.and_eq_false_iff]
      by_cases h : s.size ≤ 16000
      · exact .inr (by simp; exact fun e => hok ⟨h, e⟩)
      · exact .inl (by simp; omega)
    rw [HF] at LC
    clear HF hok
    go_enter Tryd.func13, Tryd.ntmps13
    go_wp2_with fail
    refine LC.out.mono ?_
    rintro e w1 ⟨A, c, rfl, hR, hb⟩
    have HB := Lib.hid hb
    clear hR hb
    go_wp2
    go_ret3
    exact ⟨HE.out.symm, HB.out⟩
end Go.Proofs.YthgdikdcbkhgjaaDoor

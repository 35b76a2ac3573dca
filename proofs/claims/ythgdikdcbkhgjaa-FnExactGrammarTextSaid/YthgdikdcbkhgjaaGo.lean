/- Walks: GrammarText of the program and of the reference give the same. Condition: texts are shorter than 2^63. -/
import Derived.Test.YthgdikdcbkhgjaaGx
namespace Go.Proofs.Ythgdikdcbkhgjaa
open Go.RowKit

theorem short_of {s : ByteArray} {rs : List (ByteArray × ByteArray)} (h : validG s rs = true) : Short s rs := by
  unfold validG wordB at h
  simp only [Bool.and_eq_true, decide_eq_true_eq] at h
  refine ⟨h.1.1.1, h.1.2, fun k r hr => ?_⟩
  have hk := (List.getElem?_eq_some_iff.1 hr).1
  have h2 := h.2
  unfold okRules at h2
  have h3 := (List.all_eq_true.1 h2) k (by simpa using hk)
  unfold okRule at h3
  rw [getD_of hr] at h3
  simp only [Bool.and_eq_true] at h3
  have h4 := h3.1
  unfold ruleB wordB at h4
  simp only [Bool.and_eq_true, decide_eq_true_eq] at h4
  exact ⟨by omega, h4.2.1⟩
theorem below_drewN' {B : Nat} {a w : World} (h : Below B a w) (n : Nat) : Below B a (w.drewN n) := ⟨h.os, h.tape, h.output, h.size, h.block⟩
/-- What GrammarText gives. -/
def GtRes (x : ByteArray) (ok : Bool) (w : World) (e : Ending) (w' : World) : Prop := e = .returned (.tuple #[.string x, .bool ok]) ∧ Below w.heap.size w w'
def gtB (s : ByteArray) (rs : List (ByteArray × ByteArray)) : ByteArray := if validG s rs = true then ⟨(gtext s rs).toArray⟩ else ⟨#[]⟩
theorem gtB_eq {s x : ByteArray} {rs : List (ByteArray × ByteArray)} (h : validG s rs = true) (hx : x.data.toList = gtext s rs) : x = gtB s rs := by
  unfold gtB
  rw [if_pos h, ← hx]

set_option maxRecDepth 100000 in
set_option maxHeartbeats 1000000 in
theorem specGt_any (s0 : ByteArray) (rs : List (ByteArray × ByteArray)) (A : Option Addr) (n c : Nat) (w : World) (hs : s0.size ≤ maxLen) (hn : n ≤ maxLen) (hl : rs.length = n) (hf : Fits rs) (hA : Rd w w.heap.size 2 A n (rcells rs)) :
    Calls Try.prog 11 #[.agg #[.string s0, .slice A n c]] w (GtRes (gtB s0 rs) (validG s0 rs) w) := by
  obtain ⟨v, ev⟩ : ∃ v, v = w.alloc (.cells #[.string s0, .slice A n c] 30) := ⟨_, rfl⟩
  have hbk : Blk v w.heap.size 30 #[.string s0, .slice A n c] := by rw [ev]; exact Blk.new w _ _
  have hB0 : Below w.heap.size w v := by rw [ev]; exact (Below.refl _ _).alloc (Nat.le_refl _) _
  have VC := Lib.hid (l04Is_any s0 rs A n c w.heap.size w.heap.size v hs hn hl hf hbk (hA.below hB0))
  have HBK := Lib.hid hbk
  have HB0 := Lib.hid hB0
  have HA := Lib.hid hA
  have EV := Lib.hid ev
  have HL := Lib.hid hl
  obtain ⟨q, hq⟩ : ∃ q, validG s0 rs = q := ⟨_, rfl⟩
  rw [hq] at VC
  have HQ := Lib.hid hq
  clear hbk hB0 hA ev hl hf hq
  cases q
  · have HG : Hid (gtB s0 rs = ⟨#[]⟩) := by unfold Hid gtB; rw [HQ.out]; rfl
    go_enter Try.func11, Try.ntmps11
    go_wp2_with fail
    rw [← EV.out]
    refine VC.out.mono ?_
    rintro e w1 ⟨rfl, m, h1⟩
    have HW : Hid (Below w.heap.size w w1) := h1 ▸ below_drewN' HB0.out m
    clear h1
    go_wp2
    go_ret2
    unfold GtRes
    rw [HG.out, HQ.out]
    exact ⟨rfl, HW.out⟩
  · have HF := Lib.hid (short_of HQ.out)
    go_enter Try.func11, Try.ntmps11
    go_wp2_with fail
    rw [← EV.out]
    refine VC.out.mono ?_
    rintro e w1 ⟨rfl, m, h1⟩
    have HW : Hid (Below w.heap.size w w1) := h1 ▸ below_drewN' HB0.out m
    have HK : Hid (Blk w1 w.heap.size 30 #[.string s0, .slice A n c]) := h1 ▸ HBK.out.drewN m
    clear h1
    go_wp2_with fail
    refine (l08Grammar_any s0 rs A n c w.heap.size w.heap.size w1 HL.out HF.out HK.out (HA.out.below HW.out)).mono ?_
    rintro e w2 ⟨⟨x, rfl, hx⟩, m, h2⟩
    have HX := Lib.hid (gtB_eq HQ.out hx)
    have HW2 : Hid (Below w.heap.size w w2) := h2 ▸ below_drewN' HW.out m
    clear h2 hx
    go_wp2
    go_ret2
    unfold GtRes
    rw [HQ.out, ← HX.out]
    exact ⟨rfl, HW2.out⟩
set_option maxRecDepth 100000 in
set_option maxHeartbeats 1000000 in
theorem implGt_any (s0 : ByteArray) (rs : List (ByteArray × ByteArray)) (A : Option Addr) (n c : Nat) (w : World) (hs : s0.size ≤ maxLen) (hn : n ≤ maxLen) (hl : rs.length = n) (hf : Fits rs) (hA : Rd w w.heap.size 2 A n (rcells rs)) :
    Calls Try.prog 13 #[.agg #[.string s0, .slice A n c]] w (GtRes (gtB s0 rs) (validG s0 rs) w) := by
  obtain ⟨v, ev⟩ : ∃ v, v = w.alloc (.cells #[.string s0, .slice A n c] 30) := ⟨_, rfl⟩
  have hbk : Blk v w.heap.size 30 #[.string s0, .slice A n c] := by rw [ev]; exact Blk.new w _ _
  have hB0 : Below w.heap.size w v := by rw [ev]; exact (Below.refl _ _).alloc (Nat.le_refl _) _
  have hsz := hB0.size
  have VC := Lib.hid (ValidGrammar_any s0 rs A n c w.heap.size v hs hn hsz hl hf (hA.below hB0))
  have HBK := Lib.hid hbk
  have HB0 := Lib.hid hB0
  have HA := Lib.hid hA
  have EV := Lib.hid ev
  have HL := Lib.hid hl
  obtain ⟨q, hq⟩ : ∃ q, validG s0 rs = q := ⟨_, rfl⟩
  rw [hq] at VC
  have HQ := Lib.hid hq
  clear hbk hB0 hA ev hl hf hq
  cases q
  · have HG : Hid (gtB s0 rs = ⟨#[]⟩) := by unfold Hid gtB; rw [HQ.out]; rfl
    go_enter Try.func13, Try.ntmps13
    go_wp2_with fail
    rw [← EV.out]
    refine VC.out.mono ?_
    rintro e w1 ⟨rfl, h1⟩
    have HW := Lib.hid (HB0.out.trans (h1.mono hsz))
    clear h1
    go_wp2
    go_ret2
    unfold GtRes
    rw [HG.out, HQ.out]
    exact ⟨rfl, HW.out⟩
  · have HF := Lib.hid (short_of HQ.out)
    go_enter Try.func13, Try.ntmps13
    go_wp2_with fail
    rw [← EV.out]
    refine VC.out.mono ?_
    rintro e w1 ⟨rfl, h1⟩
    have HW := Lib.hid (HB0.out.trans (h1.mono hsz))
    have hk := HBK.out.below h1 HBK.out.lt
    have d0 : w1.cell? ⟨w.heap.size, 0, none⟩ = some (.string s0) := hk.cell 0
    have d1 : w1.cell? ⟨w.heap.size, 1, none⟩ = some (.slice A n c) := hk.cell 1
    have hsz1 := HW.out.size
    clear h1 hk
    go_wp2_with fail
    refine (grammarText_any s0 rs A n c w.heap.size w1 hsz1 HL.out HF.out (HA.out.below HW.out)).mono ?_
    rintro e w2 ⟨⟨x, rfl, hx⟩, h2⟩
    have HX := Lib.hid (gtB_eq HQ.out hx)
    have HW2 := Lib.hid (HW.out.trans (h2.mono hsz1))
    clear h2 hx
    go_wp2
    go_ret2
    unfold GtRes
    rw [HQ.out, ← HX.out]
    exact ⟨rfl, HW2.out⟩
end Go.Proofs.Ythgdikdcbkhgjaa

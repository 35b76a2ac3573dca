/- Walks: the twigs and the line of a word. Conditions: each step's floats are known; words of the letters that are drawn (for lines). -/
import Derived.Test.YtkldgcgijkfpaaaTue
namespace Go.Proofs.Ytkldgcgijkfpaaa
open Go.RowKit
open Num Quick
attribute [local go_sem] run_store_fl run_store_cx

theorem TurtleTwigs_ok {B : Rat} (s : ByteArray) (t st : Nat) (S : Nat → TS) (w : World) (hs : s.size ≤ 40) (hR : TRun s t st S) (ht : Fl .f32 t) (hst : Fl .f32 st) (hB : ∀ z ∈ (S s.size).bg, Cb B z) (hE : ∀ z ∈ (S s.size).en, Cb B z) :
    Calls Try.prog 9 #[.string s, .float .f32 t, .float .f32 st] w fun e w' => ∃ (ga ca gb cb q : Nat), q = (S s.size).en.length ∧ e = .returned (.tuple #[.slice (some ⟨ga, 0, none⟩) q ca, .slice (some ⟨gb, 0, none⟩) q cb, .bool true]) ∧
      w'.ownsRow w.heap.size 37 1 (.slice (some ⟨ga, 0, none⟩) q ca) q ((S s.size).bg.map cxv) ∧ w'.ownsRow w.heap.size 37 1 (.slice (some ⟨gb, 0, none⟩) q cb) q ((S s.size).en.map cxv) ∧ Dis (.slice (some ⟨ga, 0, none⟩) q ca) (.slice (some ⟨gb, 0, none⟩) q cb) ∧ Below w.heap.size w w' := by
  have hl := hR.len s.size (Nat.le_refl _)
  have TT := Lib.hid (turtleTwigs_ok s t st 256 S w hs hR ht hst (by omega) (by omega) hB hE)
  rw [show ((256 : Nat) : Int) = 256 from rfl] at TT
  clear hR hB hE hl
  go_enter Try.func9, Try.ntmps9
  go_wp2_with fail
  refine TT.out.mono ?_
  rintro e w1 ⟨ga, ca, gb, cb, q, hq, rfl, ha, hb, hd, hbl⟩
  have HH := Lib.hid (show _ ∧ _ ∧ _ ∧ _ ∧ _ from ⟨hq, ha, hb, hd, hbl⟩)
  clear TT hq ha hb hd hbl
  go_wp2
  go_ret3
  exact ⟨ga, ca, gb, cb, q, HH.out.1, rfl, HH.out.2.1, HH.out.2.2.1, HH.out.2.2.2.1, HH.out.2.2.2.2⟩
theorem no_any {s : ByteArray} (h : ∀ b ∈ s.data.toList, Ltr b) : Lib.containsAny s.data.toList [91, 93] = false := by
  unfold Lib.containsAny
  rw [Lib.indexAny_none]
  · rfl
  · intro j b _ hj
    rcases h b (List.mem_of_getElem? hj) with rfl | rfl | rfl | rfl | rfl <;> decide
set_option maxRecDepth 100000 in
set_option maxHeartbeats 1000000 in
theorem TurtleLine_ok {B : Rat} (s : ByteArray) (t st : Nat) (S : Nat → TS) (w : World) (hs : Wrd s) (hR : TRun s t st S) (ht : Fl .f32 t) (hst : Fl .f32 st) (hB : ∀ z ∈ (S s.size).bg, Cb B z) (hE : ∀ z ∈ (S s.size).en, Cb B z) :
    Calls Try.prog 8 #[.string s, .float .f32 t, .float .f32 st] w fun e w' => ∃ (g c q : Nat), q = (S s.size).en.length ∧ e = .returned (.tuple #[.slice (some ⟨g, 0, none⟩) (1 + q) c, .bool true]) ∧
      w'.ownsRow w.heap.size 37 1 (.slice (some ⟨g, 0, none⟩) (1 + q) c) (1 + q) (((0, 0) :: (S s.size).en).map cxv) ∧ Below w.heap.size w w' := by
  have hl := hR.len s.size (Nat.le_refl _)
  have h16 := hs.1
  have TT := Lib.hid (turtleTwigs_ok s t st 255 S w (by omega) hR ht hst (by omega) (by omega) hB hE)
  rw [show ((255 : Nat) : Int) = 255 from rfl] at TT
  have CA := Lib.hid (fun w => Try.strings_ContainsAny_laid s ⟨#[91, 93]⟩ w (by omega) (by decide) (fun j b hj => by rcases hs.2 b (List.mem_of_getElem? hj) with rfl | rfl | rfl | rfl | rfl <;> decide) (fun j b hj => by
    have : b = 91 ∨ b = 93 := by
      have := List.mem_of_getElem? hj
      simpa using this
    rcases this with rfl | rfl <;> decide))
  have NA := Lib.hid (no_any hs.2)
  obtain ⟨ci, hci⟩ : ∃ i, Try.prog.info? 37 = some i ∧ i.zero = some (.complex .f32 0 0) ∧ i.size = 1 ∧ i.bytes = 8 := by
    have h := cxInfo
    cases e : Try.prog.info? 37 with
    | none => rw [e] at h; cases h
    | some i =>
      rw [e] at h
      simp only [Option.map_some, Option.some.injEq, Prod.mk.injEq] at h
      exact ⟨i, rfl, h.1, h.2.1, h.2.2⟩
  have HI := Lib.hid hci
  have hq16 : (S s.size).en.length ≤ 16 := by omega
  clear hR hB hE hl hci
  go_enter Try.func8, Try.ntmps8
  go_wp2_with fail
  refine TT.out.mono ?_
  rintro e w1 ⟨ga, ca, gb, cb, q, hq, rfl, ha, hb, hd, hbl⟩
  have HB := Lib.hid hb
  have HL := Lib.hid hbl
  have HQ := Lib.hid hq
  have hq17 : q ≤ 16 := by omega
  clear TT hq ha hb hd hbl hq16
  go_wp2_with fail
  refine (CA.out _).mono ?_
  rintro e w2 ⟨rfl, hb2⟩
  have HB2 := Lib.hid (own_below HB.out hb2)
  have HL2 := Lib.hid (HL.out.trans (hb2.mono HL.out.size))
  have na : Lib.containsAny s.data.toList (⟨#[91, 93]⟩ : ByteArray).data.toList = false := NA.out
  rw [na]
  clear CA hb2 HB HL NA na
  obtain ⟨v, ev⟩ : ∃ v, v = w2.alloc (.cells #[.complex .f32 0 0] 37) := ⟨_, rfl⟩
  have HO : Hid (v.ownsRow w.heap.size 37 1 (.slice (some ⟨w2.heap.size, 0, none⟩) 1 1) 1 [.complex .f32 0 0]) := by
    rw [ev]
    exact Lib.hid (own_base ((Blk.new w2 _ _).own (n := 1) (size := 1) (Nat.le_refl _) rfl (by unfold maxLen; omega)) HL2.out.size)
  have HE : Hid (v.ownsRow w.heap.size 37 1 (.slice (some ⟨gb, 0, none⟩) q cb) q ((S s.size).en.map cxv)) := by rw [ev]; exact Lib.hid (HB2.out.alloc _)
  have HV : Hid (Below w.heap.size w v) := by rw [ev]; exact Lib.hid (HL2.out.alloc HL2.out.size _)
  have EV := Lib.hid ev
  clear ev HB2
  go_wp2_with (first
    | (at_builtin; rw [← EV.out]; refine wpList_append_own_at (P := Try.prog) _ rfl _ _ _ rfl w.heap.size 37 ci (.complex .f32 0 0) 1 8 Try.underlying27 HI.out.1 HI.out.2.1 HI.out.2.2.1 HI.out.2.2.2 rfl (by omega) (.slice (some ⟨w2.heap.size, 0, none⟩) 1 1) 1 [.complex .f32 0 0] rfl HO.out ⟨gb, 0, none⟩ q cb ((S s.size).en.map cxv) rfl (by have := HE.out.1; omega) (fun j u hj => HE.out.cells (g := gb) rfl j u hj) (fun u hu => by obtain ⟨z, _, rfl⟩ := List.mem_map.1 hu; rfl) (by unfold maxLen; omega) (by omega) HV.out.size ?_; intro v9 w9 ho9 hg9 _ _)
    | fail)
  obtain ⟨g9, c9, rfl, _, _⟩ := ho9.form (by omega)
  have HO9 := Lib.hid ho9
  have HV9 := Lib.hid (HV.out.grown hg9 HV.out.size (fun k e => (HO.out.lt k e).1))
  clear ho9 hg9
  go_wp2
  go_ret2
  exact ⟨g9, c9, q, HQ.out, rfl, HO9.out, HV9.out⟩
end Go.Proofs.Ytkldgcgijkfpaaa

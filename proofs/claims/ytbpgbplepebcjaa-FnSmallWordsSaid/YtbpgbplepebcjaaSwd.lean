/- Walks: WordPlace, WordShare, WordSmall at words of drawn maps. Conditions: words of 1 to 3 letters, lists as the reference draws them. -/
import Derived.Test.YtbpgbplepebcjaaSwb
import Derived.Test.YtbpgbplepebcjaaSwc
namespace Go.Proofs.Ytbpgbplepebcjaa
open Go.RowKit
open Num Quick

def noSm : Sm := ⟨0, 0, 0, 0, false, 0⟩
/-- The maps of a word. -/
def mapsOf (L : List Sm) (D : List Nat) : List Sm := D.map fun d => L.getD d noSm
theorem mapsOf_length (L : List Sm) (D : List Nat) : (mapsOf L D).length = D.length := by simp [mapsOf]
theorem fold_step (L : List Sm) (D : List Nat) (m : Nat) (hm : m < D.length) (p : Rat × Rat) : foldR ((mapsOf L D).drop m) p = apR (L.getD (D.getD m 0) noSm) (foldR ((mapsOf L D).drop (m + 1)) p) := by
  have h : m < (mapsOf L D).length := by rw [mapsOf_length]; exact hm
  have h1 : (mapsOf L D)[m] = L.getD (D.getD m 0) noSm := by
    simp [mapsOf, List.getD_eq_getElem?_getD, List.getElem?_eq_getElem hm]
  rw [List.drop_eq_getElem_cons h, h1]
  rfl
theorem getD_lt {N : Nat} {D : List Nat} (h : ∀ d ∈ D, d < N) {m : Nat} (hm : m < D.length) : D.getD m 0 < N := h _ (by
  rw [List.getD_eq_getElem?_getD, List.getElem?_eq_getElem hm]
  exact List.getElem_mem hm)
theorem getS {L : List Sm} {d : Nat} (h : d < L.length) : L[d]? = some (L.getD d noSm) := by
  rw [List.getD_eq_getElem?_getD, List.getElem?_eq_getElem h]; rfl

set_option maxRecDepth 100000 in
set_option maxHeartbeats 4000000 in
theorem wordPlace_w (L : List Sm) (N l : Nat) (D : List Nat) (A AD : Option Addr) (c cD : Nat) (z : Nat × Nat) (w : World) (hL : L.length = N) (hN : N = 1 ∨ N = 2 ∨ N = 4) (hok : ∀ x ∈ L, x.ok N) (hR : Rd w w.heap.size 4 A N (smCells L)) (hl1 : 1 ≤ l) (hl : l ≤ 3) (hDl : D.length = l) (hD : ∀ d ∈ D, d < N) (hRD : Rd w w.heap.size 1 AD l (D.map nv)) (hz : PtOk z) :
    Calls Try.prog 24 #[.slice A N c, .slice AD l cD, .complex .f32 z.1 z.2] w fun e w' => ∃ z' : Nat × Nat, e = .returned (.tuple #[.complex .f32 z'.1 z'.2, .bool true]) ∧ Pl l z' ∧ ptR z' = foldR (mapsOf L D) (ptR z) ∧ Below w.heap.size w w' := by
  have AS := Lib.hid (areSmalls_ok L N A c w hL hN hok hR)
  have IW := Lib.hid (fun w1 (hb : Below w.heap.size w w1) => isIndexWord_w A AD c l cD N D w1 (by omega) hDl ((hRD.below hb).more hb.size) hD (by omega) (by omega))
  have ZS := Lib.hid (fun w => isSmall_num hz.1.fin hz.2.fin (hz.pl.low (by decide)).1 (hz.pl.low (by decide)).2 w)
  obtain ⟨b, off, rfl, hbb, hcell⟩ := hR.2 (by omega)
  obtain ⟨bd, od, rfl, hbd, hcd⟩ := hRD.2 (by omega)
  have HC := Lib.hid hcell
  have HCD := Lib.hid hcd
  have ST := Lib.hid (fun m (hm : m < l) i (hi : i ≤ 2) z' (hz' : Pl i z') => pl_step (hok (L.getD (D.getD m 0) noSm) (List.mem_of_getElem? (getS (by rw [hL]; exact getD_lt hD (by rw [hDl]; exact hm))))) hz' hi)
  have FS := Lib.hid (fun m (hm : m < l) => fold_step L D m (by rw [hDl]; exact hm) (ptR z))
  have DN := Lib.hid (fun m (hm : m < l) => getD_lt hD (by rw [hDl]; exact hm))
  have GS := Lib.hid (fun d (hd : d < N) => smCells_get L d _ (getS (by rw [hL]; exact hd)))
  have FE : Hid (foldR ((mapsOf L D).drop l) (ptR z) = ptR z) := Lib.hid (by rw [List.drop_of_length_le (by rw [mapsOf_length, hDl]; exact Nat.le_refl _)]; rfl)
  have PZ := Lib.hid hz.pl
  have HDL := Lib.hid hDl
  have hN4 : N ≤ 4 := by omega
  clear hL hN hok hR hD hRD hz hcell hcd hDl
  go_enter Try.func24, Try.ntmps24
  go_wp2_with fail
  refine AS.out.mono ?_
  rintro e w1 ⟨rfl, hb1⟩
  have B1 := Lib.hid hb1
  clear hb1 AS
  go_wp2_with fail
  refine (IW.out _ B1.out).mono ?_
  rintro e w2 ⟨rfl, hb2⟩
  have B2 := Lib.hid (B1.out.trans (hb2.mono B1.out.size))
  clear hb2 B1 IW
  go_wp2_with fail
  refine (ZS.out _).mono ?_
  rintro e w3 ⟨rfl, hw3⟩
  obtain rfl := hw3.symm
  clear hw3 ZS
  go_wp2
  go_loopw [2, 8] (fun s2 s8 wr => ∃ (q : Int) (i : Nat) (z' : Nat × Nat), s8 = .int .i64 q ∧ q + 1 = (i : Int) ∧ i ≤ l ∧ s2 = .complex .f32 z'.1 z'.2 ∧ Hid (Pl (l - i) z') ∧ Hid (ptR z' = foldR ((mapsOf L D).drop i) (ptR z)) ∧ Hid (Below w.heap.size w wr)) (fun _ s8 _ => (intOf s8 + 1).toNat)
  case atStart => exact ⟨_, l, z, rfl, by go_num, Nat.le_refl _, rfl, by rw [Nat.sub_self]; exact PZ, Lib.hid FE.out.symm, B2⟩
  case round =>
    obtain ⟨q, i, z', rfl, hq, hil, rfl, HP, HV, HB⟩ := hrel
    clear B2
    by_cases h0 : i = 0
    · have hq0 : q < 0 := by omega
      subst h0
      go_wp2
      go_ret2
      exact ⟨z', rfl, HP.out, HV.out, HB.out⟩
    · obtain ⟨m, hm⟩ : ∃ m, i = m + 1 := ⟨i - 1, by omega⟩
      obtain rfl : q = (m : Int) := by omega
      have hml : m < l := by omega
      have hmI : (m : Int) < (l : Int) := by omega
      have cd := (HB.out.cell (p := ⟨bd, od + m, none⟩) hbd).trans (HCD.out _ _ (nv_get HDL.out hml))
      obtain ⟨g0, g1, g2, g3⟩ := GS.out _ (DN.out m hml)
      have hdN := DN.out m hml
      obtain ⟨z2, p2, m2, v2⟩ := ST.out m hml (l - i) (by omega) z' HP.out
      have HP2 : Hid (Pl (l - m) z2) := by rw [show l - m = l - i + 1 by omega]; exact Lib.hid p2
      have HV2 : Hid (ptR z2 = foldR ((mapsOf L D).drop m) (ptR z)) := Lib.hid (by rw [v2, FS.out m hml, HV.out, hm])
      have CM := Lib.hid m2
      have SC := Lib.hid (fun w => isSmall_num HP2.out.x.fin HP2.out.y.fin (HP2.out.low (by omega)).1 (HP2.out.low (by omega)).2 w)
      clear p2 m2 v2 HP HV
      generalize D.getD m 0 = d at *
      have hdI : (d : Int) < (N : Int) := by omega
      generalize L.getD d noSm = x at *
      obtain ⟨xa, xb, xc, xd, xf, xs⟩ := x
      simp only at g0 g1 g2 g3 CM
      unfold smallV at CM
      have d0 := (HB.out.cell (p := ⟨b, off + d * 4, none⟩) hbb).trans (HC.out _ _ g0)
      have d1 := (HB.out.cell (p := ⟨b, off + d * 4 + 1, none⟩) hbb).trans (HC.out _ _ g1)
      have d2 := (HB.out.cell (p := ⟨b, off + d * 4 + 2, none⟩) hbb).trans (HC.out _ _ g2)
      have d3 := (HB.out.cell (p := ⟨b, off + d * 4 + 3, none⟩) hbb).trans (HC.out _ _ g3)
      clear g0 g1 g2 g3
      go_wp2_with fail
      refine (CM.out _).mono ?_
      rintro e w4 ⟨rfl, hb4⟩
      have B4 := Lib.hid (HB.out.trans (hb4.mono HB.out.size))
      clear hb4 HB d0 d1 d2 d3 cd
      go_wp2_with fail
      refine (SC.out _).mono ?_
      rintro e w5 ⟨rfl, hw5⟩
      obtain rfl := hw5.symm
      clear hw5
      go_wp2
      go_roundw
      case rel => exact ⟨_, m, z2, rfl, by go_num, by omega, rfl, HP2, HV2, B4⟩
      case measure => simp [intOf]
end Go.Proofs.Ytbpgbplepebcjaa

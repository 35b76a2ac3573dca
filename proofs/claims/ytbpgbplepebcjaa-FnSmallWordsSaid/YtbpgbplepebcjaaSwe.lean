/- Walks: WordShare and WordSmall at words of drawn maps. Conditions: words of 1 to 3 letters, lists as the reference draws them. -/
import Derived.Test.YtbpgbplepebcjaaSwd
namespace Go.Proofs.Ytbpgbplepebcjaa
open Go.RowKit
open Num Quick
attribute [local go_sem] run_store_fl run_store_cx

set_option maxRecDepth 100000 in
set_option maxHeartbeats 4000000 in
theorem wordShare_w (L : List Sm) (N l : Nat) (D : List Nat) (A AD : Option Addr) (c cD : Nat) (w : World) (hL : L.length = N) (hN : N = 1 ∨ N = 2 ∨ N = 4) (hok : ∀ x ∈ L, x.ok N) (hR : Rd w w.heap.size 4 A N (smCells L)) (hl1 : 1 ≤ l) (hl : l ≤ 3) (hDl : D.length = l) (hD : ∀ d ∈ D, d < N) (hRD : Rd w w.heap.size 1 AD l (D.map nv)) :
    Calls Try.prog 23 #[.slice A N c, .slice AD l cD] w fun e w' => ∃ s : Nat, e = .returned (.tuple #[.float .f32 s, .bool true]) ∧ Sh N l s ∧ Below w.heap.size w w' := by
  have AS := Lib.hid (areSmalls_ok L N A c w hL hN hok hR)
  have IW := Lib.hid (fun w1 (hb : Below w.heap.size w w1) => isIndexWord_w A AD c l cD N D w1 (by omega) hDl ((hRD.below hb).more hb.size) hD (by omega) (by omega))
  obtain ⟨b, off, rfl, hbb, hcell⟩ := hR.2 (by omega)
  obtain ⟨bd, od, rfl, hbd, hcd⟩ := hRD.2 (by omega)
  have HC := Lib.hid hcell
  have HCD := Lib.hid hcd
  have ST := Lib.hid (fun m (hm : m < l) s (hs : Sh N m s) => sh_step (hok (L.getD (D.getD m 0) noSm) (List.mem_of_getElem? (getS (by rw [hL]; exact getD_lt hD (by rw [hDl]; exact hm))))) hs (by omega))
  have DN := Lib.hid (fun m (hm : m < l) => getD_lt hD (by rw [hDl]; exact hm))
  have GS := Lib.hid (fun d (hd : d < N) => smCells_get L d _ (getS (by rw [hL]; exact hd)))
  have HDL := Lib.hid hDl
  have hN4 : N ≤ 4 := by omega
  clear hL hN hok hR hD hRD hcell hcd hDl
  go_enter Try.func23, Try.ntmps23
  go_wp2_with fail
  refine AS.out.mono ?_
  rintro e w1 ⟨rfl, hb1⟩
  have B1 := Lib.hid hb1
  clear hb1 AS
  go_wp2_with fail
  refine (IW.out _ B1.out).mono ?_
  rintro e w2 ⟨rfl, hb2⟩
  have B2 := Lib.hid (B1.out.trans (hb2.mono B1.out.size))
  clear hb2 B1 IW
  go_wp2
  go_loop [6, 20] (fun s6 s20 => ∃ (m : Nat) (s : Nat), s20 = .int .i64 (m : Int) ∧ m ≤ l ∧ s6 = .float .f32 s ∧ Hid (Sh N m s)) (fun _ s20 => l - (intOf s20).toNat)
  case atStart => exact ⟨0, _, rfl, Nat.zero_le _, rfl, Lib.hid (sh_start N)⟩
  case round =>
    obtain ⟨m, s, rfl, hml', rfl, HS⟩ := hrel
    by_cases hml : m < l
    · have hmI : (m : Int) < (l : Int) := by omega
      have cd := (B2.out.cell (p := ⟨bd, od + m, none⟩) hbd).trans (HCD.out _ _ (nv_get HDL.out hml))
      obtain ⟨g0, g1, g2, g3⟩ := GS.out _ (DN.out m hml)
      have hdN := DN.out m hml
      obtain ⟨s', m2, v2⟩ := ST.out m hml s HS.out
      have M2 := r32 m2
      have HS2 := Lib.hid v2
      clear g0 g1 g2 m2 v2 HS
      generalize D.getD m 0 = d at *
      have hdI : (d : Int) < (N : Int) := by omega
      generalize L.getD d noSm = x at *
      have d3 := (B2.out.cell (p := ⟨b, off + d * 4 + 3, none⟩) hbb).trans (HC.out _ _ g3)
      clear g3
      go_wp2
      go_round
      case rel => exact ⟨m + 1, s', by go_num, by omega, rfl, HS2⟩
      case measure => simp [intOf]; omega
    · obtain rfl : m = l := by omega
      go_wp2
      go_ret2
      exact ⟨s, rfl, HS.out, B2.out⟩
theorem Blk.four {w : World} {g : Nat} {t : TypeId} {v0 v1 v2 v3 : Value} (h : Blk w g t #[v0, v1, v2, v3]) : w.cell? ⟨g, 0, none⟩ = some v0 ∧ w.frozen? ⟨g, 0, none⟩ = false ∧ w.cell? ⟨g, 1, none⟩ = some v1 ∧ w.frozen? ⟨g, 1, none⟩ = false ∧ w.cell? ⟨g, 2, none⟩ = some v2 ∧ w.frozen? ⟨g, 2, none⟩ = false ∧ w.cell? ⟨g, 3, none⟩ = some v3 ∧ w.frozen? ⟨g, 3, none⟩ = false :=
  ⟨h.cell 0, h.frozen 0, h.cell 1, h.frozen 1, h.cell 2, h.frozen 2, h.cell 3, h.frozen 3⟩
set_option maxRecDepth 100000 in
set_option maxHeartbeats 8000000 in
theorem wordSmall_w (L : List Sm) (N l : Nat) (D : List Nat) (A AD : Option Addr) (c cD : Nat) (w : World) (hL : L.length = N) (hN : N = 1 ∨ N = 2 ∨ N = 4) (hok : ∀ x ∈ L, x.ok N) (hR : Rd w w.heap.size 4 A N (smCells L)) (hl1 : 1 ≤ l) (hl : l ≤ 3) (hDl : D.length = l) (hD : ∀ d ∈ D, d < N) (hRD : Rd w w.heap.size 1 AD l (D.map nv)) :
    Calls Try.prog 22 #[.slice A N c, .slice AD l cD] w fun e w' => ∃ o : Sm, e = .returned (.tuple #[smallV o.a o.b o.c o.d o.fl o.s, .bool true]) ∧ Cp N l o ∧ (∀ p, apR o p = foldR (mapsOf L D) p) ∧ Below w.heap.size w w' := by
  have AS := Lib.hid (fun w1 (hb : Below w.heap.size w w1) => areSmalls_ok L N A c w1 hL hN hok ((hR.below hb).more hb.size))
  have IW := Lib.hid (fun w1 (hb : Below w.heap.size w w1) => isIndexWord_w A AD c l cD N D w1 (by omega) hDl ((hRD.below hb).more hb.size) hD (by omega) (by omega))
  obtain ⟨b, off, rfl, hbb, hcell⟩ := hR.2 (by omega)
  obtain ⟨bd, od, rfl, hbd, hcd⟩ := hRD.2 (by omega)
  have HC := Lib.hid hcell
  have HCD := Lib.hid hcd
  have MO := Lib.hid (fun m (hm : m < l) => hok (L.getD (D.getD m 0) noSm) (List.mem_of_getElem? (getS (by rw [hL]; exact getD_lt hD (by rw [hDl]; exact hm)))))
  have FS := Lib.hid (fun m (hm : m < l) p => fold_step L D m (by rw [hDl]; exact hm) p)
  have FE : Hid (∀ p, foldR ((mapsOf L D).drop l) p = p) := Lib.hid (fun p => by rw [List.drop_of_length_le (by rw [mapsOf_length, hDl]; exact Nat.le_refl _)]; rfl)
  have DN := Lib.hid (fun m (hm : m < l) => getD_lt hD (by rw [hDl]; exact hm))
  have GS := Lib.hid (fun d (hd : d < N) => smCells_get L d _ (getS (by rw [hL]; exact hd)))
  have HDL := Lib.hid hDl
  have hN4 : N ≤ 4 := by omega
  have hN1 : 1 ≤ N := by omega
  have h4 : Below w.heap.size w (w.alloc (.cells (smallC 0 0 0 0 false 0) 29)) := (Below.refl _ _).alloc (Nat.le_refl _) _
  have k4 : Blk (w.alloc (.cells (smallC 0 0 0 0 false 0) 29)) w.heap.size 29 (smallC 0 0 0 0 false 0) := Blk.new _ _ _
  have s4 : w.heap.size < (w.alloc (.cells (smallC 0 0 0 0 false 0) 29)).heap.size := by simp
  obtain ⟨v0, ev⟩ : ∃ v0, v0 = w.alloc (.cells (smallC 0 0 0 0 false 0) 29) := ⟨_, rfl⟩
  rw [← ev] at h4 k4 s4
  unfold smallC at ev
  have EV := Lib.hid ev
  have H4 := Lib.hid h4
  have K4 := Lib.hid k4
  have S4 := Lib.hid s4
  clear hL hN hok hR hD hRD hcell hcd hDl ev h4 k4 s4
  go_enter Try.func22, Try.ntmps22
  go_wp2_with fail
  rw [← EV.out]
  refine (AS.out _ H4.out).mono ?_
  rintro e w1 ⟨rfl, hb1⟩
  have B1 := Lib.hid (H4.out.trans (hb1.mono H4.out.size))
  have K1 := Lib.hid (K4.out.below hb1 S4.out)
  clear hb1 AS
  go_wp2_with fail
  refine (IW.out _ B1.out).mono ?_
  rintro e w2 ⟨rfl, hb2⟩
  have B2 := Lib.hid (B1.out.trans (hb2.mono B1.out.size))
  have K2 := Lib.hid (K1.out.below hb2 K1.out.lt)
  clear hb2 B1 IW K1 H4 K4 S4 EV
  obtain ⟨l1, hl1'⟩ : ∃ l1, l = l1 + 1 := ⟨l - 1, by omega⟩
  have hl1I : (l : Int) - 1 = (l1 : Int) := by omega
  have hl2I : (l : Int) - 2 = (l1 : Int) - 1 := by omega
  have hlI : (l1 : Int) < (l : Int) := by omega
  have hl0 : ((l : Int) == 0) = false := by simp; omega
  have hll : l1 < l := by omega
  have hdN := DN.out l1 hll
  have cd := (B2.out.cell (p := ⟨bd, od + l1, none⟩) hbd).trans (HCD.out _ _ (nv_get HDL.out hll))
  obtain ⟨g0, g1, g2, g3⟩ := GS.out _ (DN.out l1 hll)
  have C0 := Lib.hid ((MO.out l1 hll).cp hN1)
  have R0 : Hid (∀ p, apR (L.getD (D.getD l1 0) noSm) p = foldR ((mapsOf L D).drop l1) p) := Lib.hid (fun p => by rw [FS.out l1 hll, ← hl1', FE.out])
  generalize D.getD l1 0 = d at *
  have hdI : (d : Int) < (N : Int) := by omega
  generalize L.getD d noSm = x at *
  have d0 := (B2.out.cell (p := ⟨b, off + d * 4, none⟩) hbb).trans (HC.out _ _ g0)
  have d1 := (B2.out.cell (p := ⟨b, off + d * 4 + 1, none⟩) hbb).trans (HC.out _ _ g1)
  have d2 := (B2.out.cell (p := ⟨b, off + d * 4 + 2, none⟩) hbb).trans (HC.out _ _ g2)
  have d3 := (B2.out.cell (p := ⟨b, off + d * 4 + 3, none⟩) hbb).trans (HC.out _ _ g3)
  clear g0 g1 g2 g3
  have HL1 := Lib.hid hl1'
  clear hl1'
  have K6 : Hid (Blk (w2.alloc (.cells #[.complex .f32 x.a x.b, .complex .f32 x.c x.d, .bool x.fl, .float .f32 x.s] 29)) w2.heap.size 29 (smallC x.a x.b x.c x.d x.fl x.s)) := Lib.hid (Blk.new w2 _ _)
  have K4 := Lib.hid (K2.out.alloc (.cells #[.complex .f32 x.a x.b, .complex .f32 x.c x.d, .bool x.fl, .float .f32 x.s] 29))
  have B6 := Lib.hid (B2.out.alloc B2.out.size (.cells #[.complex .f32 x.a x.b, .complex .f32 x.c x.d, .bool x.fl, .float .f32 x.s] 29))
  have G6 : Hid (w.heap.size < w2.heap.size) := Lib.hid K2.out.lt
  go_wp2
  clear d0 d1 d2 d3 cd K2 B2
  go_loopw [7, 8, 9] (fun s7 _ _ wr => ∃ (q : Int) (i : Nat) (o : Sm), s7 = .int .i64 q ∧ q + 1 = (i : Int) ∧ i < l ∧ Hid (Cp N (l - i) o) ∧ Hid (∀ p, apR o p = foldR ((mapsOf L D).drop i) p) ∧ Hid (Blk wr w2.heap.size 29 (smallC o.a o.b o.c o.d o.fl o.s)) ∧ Hid (Blk wr w.heap.size 29 (smallC 0 0 0 0 false 0)) ∧ Hid (Below w.heap.size w wr)) (fun s7 _ _ _ => (intOf s7 + 1).toNat)
  case atStart => exact ⟨_, l1, x, rfl, by go_num, hll, by rw [show l - l1 = 1 by have := HL1.out; omega]; exact C0, R0, K6, K4, B6⟩
  case round =>
    obtain ⟨q, i, o, rfl, hq, hil, HP, HV, H6, H4, HB⟩ := hrel
    clear C0 R0 K6 K4 B6
    by_cases h0 : i = 0
    · have hq0 : q < 0 := by omega
      subst h0
      rw [Nat.sub_zero] at HP
      obtain ⟨oa, ob, oc, od', of, os⟩ := o
      simp only at H6
      obtain ⟨m0, m1, m2, m3⟩ := H6.out.smC
      obtain ⟨r0, f0, r1, f1, r2, f2, r3, f3⟩ := Blk.four (show Blk _ _ _ #[.complex .f32 0 0, .complex .f32 0 0, .bool false, .float .f32 0] from H4.out)
      have N4 : Hid (Blk ((((wr.setCell ⟨w.heap.size, 0, none⟩ (.complex .f32 oa ob)).setCell ⟨w.heap.size, 1, none⟩ (.complex .f32 oc od')).setCell ⟨w.heap.size, 2, none⟩ (.bool of)).setCell ⟨w.heap.size, 3, none⟩ (.float .f32 os)) w.heap.size 29 #[.complex .f32 oa ob, .complex .f32 oc od', .bool of, .float .f32 os]) := by
        have := (((H4.out.set_ 0 (.complex .f32 oa ob)).set_ 1 (.complex .f32 oc od')).set_ 2 (.bool of)).set_ 3 (.float .f32 os)
        exact Lib.hid (by simpa [smallC] using this)
      have NB : Hid (Below w.heap.size w ((((wr.setCell ⟨w.heap.size, 0, none⟩ (.complex .f32 oa ob)).setCell ⟨w.heap.size, 1, none⟩ (.complex .f32 oc od')).setCell ⟨w.heap.size, 2, none⟩ (.bool of)).setCell ⟨w.heap.size, 3, none⟩ (.float .f32 os))) := Lib.hid ((((HB.out.setCell (Nat.le_refl _) _).setCell (Nat.le_refl _) _).setCell (Nat.le_refl _) _).setCell (Nat.le_refl _) _)
      clear H6 H4 HB
      go_wp2
      refine bodyPost_ret (res_row2 rfl _ _ w.heap.size 29 _ _ rfl N4.out Try.underlying29 rfl (by kernel_rfl) _ rfl) rfl ?_
      exact ⟨⟨oa, ob, oc, od', of, os⟩, rfl, HP.out, fun p => by rw [HV.out, List.drop_zero], NB.out⟩
    · obtain ⟨m, hm⟩ : ∃ m, i = m + 1 := ⟨i - 1, by omega⟩
      obtain rfl : q = (m : Int) := by omega
      have hml : m < l := by omega
      have hmI : (m : Int) < (l : Int) := by omega
      have hmo := MO.out m hml
      have hdN := DN.out m hml
      obtain ⟨g0, g1, g2, g3⟩ := GS.out _ (DN.out m hml)
      have cd0 := HCD.out _ _ (nv_get HDL.out hml)
      obtain ⟨r, hr1, hr2, hr3⟩ := cp_join hN1 hmo HP.out (by omega)
      have HP2 : Hid (Cp N (l - m) r) := by rw [show l - m = l - i + 1 by omega]; exact Lib.hid hr1
      have HV2 : Hid (∀ p, apR r p = foldR ((mapsOf L D).drop m) p) := Lib.hid (fun p => by rw [hr3, FS.out m hml, HV.out, hm])
      have JC := Lib.hid hr2
      clear hr1 hr2 hr3 hmo HP HV
      generalize D.getD m 0 = d at *
      have hdI : (d : Int) < (N : Int) := by omega
      generalize L.getD d noSm = x at *
      obtain ⟨oa, ob, oc, od', of, os⟩ := o
      obtain ⟨xa, xb, xc, xd, xf, xs⟩ := x
      obtain ⟨ra, rb, rc, rd, rf, rs⟩ := r
      simp only at g0 g1 g2 g3 JC H6
      unfold smallV at JC
      have SX : Hid (∀ w', Below wr.heap.size wr w' → w'.cell? ⟨bd, od + m, none⟩ = some (.int .i64 (d : Int)) ∧ w'.cell? ⟨b, off + d * 4, none⟩ = some (.complex .f32 xa xb) ∧ w'.cell? ⟨b, off + d * 4 + 1, none⟩ = some (.complex .f32 xc xd) ∧ w'.cell? ⟨b, off + d * 4 + 2, none⟩ = some (.bool xf) ∧ w'.cell? ⟨b, off + d * 4 + 3, none⟩ = some (.float .f32 xs) ∧
          w'.cell? ⟨w2.heap.size, 0, none⟩ = some (.complex .f32 oa ob) ∧ w'.cell? ⟨w2.heap.size, 1, none⟩ = some (.complex .f32 oc od') ∧ w'.cell? ⟨w2.heap.size, 2, none⟩ = some (.bool of) ∧ w'.cell? ⟨w2.heap.size, 3, none⟩ = some (.float .f32 os) ∧ Below wr.heap.size wr w') := Lib.hid fun w' hb => by
        have HBB := HB.out.trans (hb.mono HB.out.size)
        obtain ⟨k0, k1, k2, k3⟩ := (H6.out.below hb H6.out.lt).smC
        exact ⟨(HBB.cell (p := ⟨bd, od + m, none⟩) hbd).trans cd0, (HBB.cell (p := ⟨b, off + d * 4, none⟩) hbb).trans (HC.out _ _ g0), (HBB.cell (p := ⟨b, off + d * 4 + 1, none⟩) hbb).trans (HC.out _ _ g1), (HBB.cell (p := ⟨b, off + d * 4 + 2, none⟩) hbb).trans (HC.out _ _ g2), (HBB.cell (p := ⟨b, off + d * 4 + 3, none⟩) hbb).trans (HC.out _ _ g3), k0, k1, k2, k3, hb⟩
      have Z0 : Hid (wr.heap.size ≤ wr.heap.size) := Lib.hid (Nat.le_refl _)
      clear g0 g1 g2 g3 cd0
      go_wp2
      go_region_held3 (fun w' => w'.cell? ⟨bd, od + m, none⟩ = some (.int .i64 (d : Int)) ∧ w'.cell? ⟨b, off + d * 4, none⟩ = some (.complex .f32 xa xb) ∧ w'.cell? ⟨b, off + d * 4 + 1, none⟩ = some (.complex .f32 xc xd) ∧ w'.cell? ⟨b, off + d * 4 + 2, none⟩ = some (.bool xf) ∧ w'.cell? ⟨b, off + d * 4 + 3, none⟩ = some (.float .f32 xs) ∧
          w'.cell? ⟨w2.heap.size, 0, none⟩ = some (.complex .f32 oa ob) ∧ w'.cell? ⟨w2.heap.size, 1, none⟩ = some (.complex .f32 oc od') ∧ w'.cell? ⟨w2.heap.size, 2, none⟩ = some (.bool of) ∧ w'.cell? ⟨w2.heap.size, 3, none⟩ = some (.float .f32 os) ∧ Below wr.heap.size wr w')
        (first
          | exact SX.out _ (Below.refl _ _).drew
          | exact SX.out _ ((Below.refl _ _).alloc Z0.out _).drew
          | exact SX.out _ H6'.out
          | exact SX.out _ (H6'.out.alloc Z6.out _)
          | exact SX.out _ (((((H6'.out.alloc Z6.out _).setCell Z6.out _).setCell Z6.out _).setCell Z6.out _).setCell Z6.out _)
          | exact SX.out _ ((((H6'.out.setCell Z0.out _).setCell Z0.out _).setCell Z0.out _).setCell Z0.out _)
          | go_keep)
        (first
          | (go_at_call 12; refine (JC.out _).mono ?_; rintro e w6 ⟨rfl, hb6⟩
             first
             | (have H6' : Hid (Below wr.heap.size wr w6) := (Below.refl _ _).drew.trans (hb6.mono Z0.out)
                have Z6 : Hid (wr.heap.size ≤ w6.heap.size) := H6'.out.size
                have R6 : Blk (w6.alloc (.cells #[.complex .f32 0 0, .complex .f32 0 0, .bool false, .float .f32 0] 29)) w6.heap.size 29 #[.complex .f32 0 0, .complex .f32 0 0, .bool false, .float .f32 0] := Blk.new _ _ _
                obtain ⟨r0, f0, r1, f1, r2, f2, r3, f3⟩ := R6.four
                have R7 := Lib.hid R6
                clear R6 hb6)
             | (have H6' : Hid (Below wr.heap.size wr w6) := ((Below.refl _ _).alloc Z0.out _).drew.trans (hb6.mono (by show _ ≤ (wr.alloc _).heap.size; simp))
                have R6 : Blk w6 wr.heap.size 29 #[.complex .f32 0 0, .complex .f32 0 0, .bool false, .float .f32 0] := (Blk.new wr _ _).drew.below hb6 (by show _ < (wr.alloc _).heap.size; simp)
                obtain ⟨r0, f0, r1, f1, r2, f2, r3, f3⟩ := R6.four
                have R7 := Lib.hid R6
                clear R6 hb6)))
      all_goals
        first
        | (have R8 : Hid (Blk ((((w6.setCell ⟨wr.heap.size, 0, none⟩ (.complex .f32 ra rb)).setCell ⟨wr.heap.size, 1, none⟩ (.complex .f32 rc rd)).setCell ⟨wr.heap.size, 2, none⟩ (.bool rf)).setCell ⟨wr.heap.size, 3, none⟩ (.float .f32 rs)) wr.heap.size 29 #[.complex .f32 ra rb, .complex .f32 rc rd, .bool rf, .float .f32 rs]) := by
             have := (((R7.out.set_ 0 (.complex .f32 ra rb)).set_ 1 (.complex .f32 rc rd)).set_ 2 (.bool rf)).set_ 3 (.float .f32 rs)
             exact Lib.hid (by simpa using this)
           have H8 : Hid (Below wr.heap.size wr ((((w6.setCell ⟨wr.heap.size, 0, none⟩ (.complex .f32 ra rb)).setCell ⟨wr.heap.size, 1, none⟩ (.complex .f32 rc rd)).setCell ⟨wr.heap.size, 2, none⟩ (.bool rf)).setCell ⟨wr.heap.size, 3, none⟩ (.float .f32 rs))) := Lib.hid ((((H6'.out.setCell (Nat.le_refl _) _).setCell (Nat.le_refl _) _).setCell (Nat.le_refl _) _).setCell (Nat.le_refl _) _)
           generalize ((((w6.setCell ⟨wr.heap.size, 0, none⟩ (.complex .f32 ra rb)).setCell ⟨wr.heap.size, 1, none⟩ (.complex .f32 rc rd)).setCell ⟨wr.heap.size, 2, none⟩ (.bool rf)).setCell ⟨wr.heap.size, 3, none⟩ (.float .f32 rs)) = w7 at *
           generalize wr.heap.size = g7 at R8 ⊢)
        | (have R8 : Hid (Blk (w6.alloc (.cells #[.complex .f32 ra rb, .complex .f32 rc rd, .bool rf, .float .f32 rs] 29)) w6.heap.size 29 #[.complex .f32 ra rb, .complex .f32 rc rd, .bool rf, .float .f32 rs]) := Lib.hid (Blk.new _ _ _)
           have H8 : Hid (Below wr.heap.size wr (w6.alloc (.cells #[.complex .f32 ra rb, .complex .f32 rc rd, .bool rf, .float .f32 rs] 29))) := Lib.hid (H6'.out.alloc Z6.out _)
           generalize (w6.alloc (.cells #[.complex .f32 ra rb, .complex .f32 rc rd, .bool rf, .float .f32 rs] 29)) = w7 at *
           generalize w6.heap.size = g7 at R8 ⊢)
      all_goals
        clear r0 r1 r2 r3 f0 f1 f2 f3 R7 H6'
        have Q7 := Lib.hid (H6.out.below H8.out H6.out.lt)
        have Q4 := Lib.hid (H4.out.below H8.out H4.out.lt)
        have P7 := Lib.hid (HB.out.trans (H8.out.mono HB.out.size))
        obtain ⟨m0, m1, m2, m3⟩ := Blk.smC (show Blk _ _ _ (smallC ra rb rc rd rf rs) from R8.out)
        obtain ⟨r0, f0, r1, f1, r2, f2, r3, f3⟩ := Blk.four (show Blk _ _ _ #[.complex .f32 oa ob, .complex .f32 oc od', .bool of, .float .f32 os] from Q7.out)
        have N8 : Hid (Blk ((((w7.setCell ⟨w2.heap.size, 0, none⟩ (.complex .f32 ra rb)).setCell ⟨w2.heap.size, 1, none⟩ (.complex .f32 rc rd)).setCell ⟨w2.heap.size, 2, none⟩ (.bool rf)).setCell ⟨w2.heap.size, 3, none⟩ (.float .f32 rs)) w2.heap.size 29 (smallC ra rb rc rd rf rs)) := by
          have := (((Q7.out.set_ 0 (.complex .f32 ra rb)).set_ 1 (.complex .f32 rc rd)).set_ 2 (.bool rf)).set_ 3 (.float .f32 rs)
          exact Lib.hid (by simpa [smallC] using this)
        have N4 : Hid (Blk ((((w7.setCell ⟨w2.heap.size, 0, none⟩ (.complex .f32 ra rb)).setCell ⟨w2.heap.size, 1, none⟩ (.complex .f32 rc rd)).setCell ⟨w2.heap.size, 2, none⟩ (.bool rf)).setCell ⟨w2.heap.size, 3, none⟩ (.float .f32 rs)) w.heap.size 29 (smallC 0 0 0 0 false 0)) := Lib.hid ((((Q4.out.far (Nat.ne_of_lt G6.out) _).far (Nat.ne_of_lt G6.out) _).far (Nat.ne_of_lt G6.out) _).far (Nat.ne_of_lt G6.out) _)
        have NB : Hid (Below w.heap.size w ((((w7.setCell ⟨w2.heap.size, 0, none⟩ (.complex .f32 ra rb)).setCell ⟨w2.heap.size, 1, none⟩ (.complex .f32 rc rd)).setCell ⟨w2.heap.size, 2, none⟩ (.bool rf)).setCell ⟨w2.heap.size, 3, none⟩ (.float .f32 rs))) := Lib.hid ((((P7.out.setCell (Nat.le_of_lt G6.out) _).setCell (Nat.le_of_lt G6.out) _).setCell (Nat.le_of_lt G6.out) _).setCell (Nat.le_of_lt G6.out) _)
        clear SX H8 Q7 Q4 P7 H6 H4 HB R8
        go_wp2
        generalize ((((w7.setCell ⟨w2.heap.size, 0, none⟩ (.complex .f32 ra rb)).setCell ⟨w2.heap.size, 1, none⟩ (.complex .f32 rc rd)).setCell ⟨w2.heap.size, 2, none⟩ (.bool rf)).setCell ⟨w2.heap.size, 3, none⟩ (.float .f32 rs)) = w8 at *
        go_roundw
        case rel => exact ⟨_, m, _, rfl, by go_num, by omega, HP2, HV2, N8, N4, NB⟩
        case measure => simp [intOf]
end Go.Proofs.Ytbpgbplepebcjaa

/- Walks: a copy of a sheet, by the program and by the reference; a struct and plain values as results. Conditions: the sheet has at least one height. -/
import Derived.Test.YtoibgpmpngccjaaHd
import Derived.Test.YtoibgpmpngccjaaShelf
import Derived.Deep.RegionLaw
namespace Go.Proofs.Ytoibgpmpngccjaa
open Go.RowKit Go.Lib
attribute [local go_sem] run_store_fl

section
variable {P : Program}
theorem step_store_blk {ops : Array Oper} {o : Oper} {a : Act} {w : World} {K : Act → World → Prop} {Q : Exit → Act → World → Prop} {E : Prop} (hgd : o.guard = none) (ty : TypeId) (x y : Operand) (ho : o.op = .store ty x y)
    (g f : Nat) (hx : a.eval x = .pointer (some ⟨g, f, none⟩)) (v : Value) (hy : a.eval y = v) (vs : List Value) (hv : v.cells = vs.toArray) (t : TypeId) (cur cur' : Array Value) (hg : Blk w g t cur)
    (hi : (P.info? ty).map (·.size) = some vs.length) (hfit : f + vs.length ≤ cur.size) (h1 : ∀ v ∈ vs, v.oneCell' = true) (hc : (cur.toList.take f ++ vs ++ cur.toList.drop (f + vs.length)).toArray = cur')
    (h : ∀ w', Blk w' g t cur' → w.grownBy w' (some g) → K (a.put o.dst undef) w') : if Region.wanted o (yielded ops a.tmps) = true then Oper.wp P o a w K Q else E := by
  have hw : Region.wanted o (yielded ops a.tmps) = true := by simp [Region.wanted, hgd]
  rw [if_pos hw]
  exact wp_store_blk ty x y ho g f hx v hy vs hv t cur cur' hg hi hfit h1 hc h

theorem blk_set3 {w : World} {g : Nat} {t : TypeId} {a b c : Value} (h : Blk w g t #[a, b, c]) (x y z : Value) :
    Blk (((w.setCell ⟨g, 0, none⟩ x).setCell ⟨g, 1, none⟩ y).setCell ⟨g, 2, none⟩ z) g t #[x, y, z] ∧ w.grownBy (((w.setCell ⟨g, 0, none⟩ x).setCell ⟨g, 1, none⟩ y).setCell ⟨g, 2, none⟩ z) (some g) := by
  constructor
  · have := ((h.set_ 0 x).set_ 1 y).set_ 2 z
    simpa using this
  · exact grown_set (grown_set (grown_set (World.grownBy.refl w (some g)) rfl x) rfl y) rfl z
theorem results_row2 {fn : Func} {p a : Tmp} {ty : TypeId} (h : fn.results = #[.cell p ty, .tmp a]) (tmps : Array Value) (w : World) (g : Nat) (t : TypeId) (cs : Array Value) (d : TypeDesc)
    (hp : tmps.getD p undef = .pointer (some ⟨g, 0, none⟩)) (hg : Blk w g t cs)
    (hu : P.underlying ty = some d) (hd : (match d with | .struct _ | .array _ _ => true | _ => false) = true) (hi : (P.info? ty).map (·.size) = some cs.size) (va : Value) (ha : tmps.getD a undef = va) :
    (results fn tmps).run P w = .ok (.tuple #[.agg cs, va]) w := by
  have hp' : tmps[p]?.getD undef = .pointer (some ⟨g, 0, none⟩) := by simpa using hp
  have ha' : tmps[a]?.getD undef = va := by simpa using ha
  simp [results, h, hp', ha', asAddr, run_loadVar_row w g t ty cs (0, 0) d hg hu hd hi]
theorem results_row3 {fn : Func} {p a b : Tmp} {ty : TypeId} (h : fn.results = #[.cell p ty, .tmp a, .tmp b]) (tmps : Array Value) (w : World) (g : Nat) (t : TypeId) (cs : Array Value) (d : TypeDesc)
    (hp : tmps.getD p undef = .pointer (some ⟨g, 0, none⟩)) (hg : Blk w g t cs)
    (hu : P.underlying ty = some d) (hd : (match d with | .struct _ | .array _ _ => true | _ => false) = true) (hi : (P.info? ty).map (·.size) = some cs.size) (va vb : Value) (ha : tmps.getD a undef = va) (hb : tmps.getD b undef = vb) :
    (results fn tmps).run P w = .ok (.tuple #[.agg cs, va, vb]) w := by
  have hp' : tmps[p]?.getD undef = .pointer (some ⟨g, 0, none⟩) := by simpa using hp
  have ha' : tmps[a]?.getD undef = va := by simpa using ha
  have hb' : tmps[b]?.getD undef = vb := by simpa using hb
  simp [results, h, hp', ha', hb', asAddr, run_loadVar_row w g t ty cs (0, 0) d hg hu hd hi]
theorem results_row4 {fn : Func} {p a b c : Tmp} {ty : TypeId} (h : fn.results = #[.cell p ty, .tmp a, .tmp b, .tmp c]) (tmps : Array Value) (w : World) (g : Nat) (t : TypeId) (cs : Array Value) (d : TypeDesc)
    (hp : tmps.getD p undef = .pointer (some ⟨g, 0, none⟩)) (hg : Blk w g t cs)
    (hu : P.underlying ty = some d) (hd : (match d with | .struct _ | .array _ _ => true | _ => false) = true) (hi : (P.info? ty).map (·.size) = some cs.size) (va vb vc : Value) (ha : tmps.getD a undef = va) (hb : tmps.getD b undef = vb) (hc : tmps.getD c undef = vc) :
    (results fn tmps).run P w = .ok (.tuple #[.agg cs, va, vb, vc]) w := by
  have hp' : tmps[p]?.getD undef = .pointer (some ⟨g, 0, none⟩) := by simpa using hp
  have ha' : tmps[a]?.getD undef = va := by simpa using ha
  have hb' : tmps[b]?.getD undef = vb := by simpa using hb
  have hc' : tmps[c]?.getD undef = vc := by simpa using hc
  simp [results, h, hp', ha', hb', hc', asAddr, run_loadVar_row w g t ty cs (0, 0) d hg hu hd hi]
end

/-- A field that is a copy: memory of its own. -/
def SheetOut (wd hi : Int) (N : Nat) (cs : List Nat) (w : World) (e : Ending) (w' : World) : Prop :=
  ∃ A' c', e = .returned (sheetV wd hi A' N c') ∧ w'.ownsRow w.heap.size 30 1 (.slice A' N c') N (cs.map fv) ∧ Below w.heap.size w w'

set_option maxRecDepth 100000 in
set_option maxHeartbeats 1000000 in
theorem copySheet_any (wd hi : Int) (N : Nat) (A : Option Addr) (c : Nat) (cs : List Nat) (w : World) (hN : 1 ≤ N) (hN289 : N ≤ 289) (hl : cs.length = N) (hA : Rd w w.heap.size 1 A N (cs.map fv)) :
    Calls Try.prog 26 #[sheetV wd hi A N c] w (SheetOut wd hi N cs w) := by
  obtain ⟨i0, hi0, hz0, hz1, hz2⟩ := info_parts fltInfo
  obtain ⟨b, off, rfl, hbb, hc⟩ := hA.2 (by omega)
  have CL : Hid (∀ w', Below w.heap.size w w' → Calls Try.prog 51 #[.slice (some ⟨b, off, none⟩) N c] w' fun e w'' => ∃ g cap, e = .returned (.slice (some ⟨g, 0, none⟩) N cap) ∧ w''.ownsRow w'.heap.size 30 1 (.slice (some ⟨g, 0, none⟩) N cap) N (cs.map fv) ∧ Below w'.heap.size w' w'') := fun w' hb => by
    refine (Try.slices_Clone i0 (.float .f32 0) 1 4 hi0 hz0 hz1 hz2 rfl (by omega) (fun _ => by kernel_rfl) b off N c (cs.map fv) w' (by simp; omega) (by unfold maxLen; omega) (by omega) (fun j u hu => (hb.cell hbb).trans (hc j u hu)) (fun u hu => by
      simp only [List.mem_map] at hu
      obtain ⟨x, _, rfl⟩ := hu
      rfl)).mono ?_
    rintro e w'' ⟨v', rfl, ho, _, hb'⟩
    obtain ⟨g, cap, rfl, _, _⟩ := ho.form (by omega)
    exact ⟨g, cap, rfl, ho, hb'⟩
  obtain ⟨v, ev⟩ : ∃ v, v = (w.alloc (.cells #[.int .i64 wd, .int .i64 hi, .slice (some ⟨b, off, none⟩) N c] 26)).alloc (.cells #[.int .i64 0, .int .i64 0, .slice none 0 0] 26) := ⟨_, rfl⟩
  have B0 : Hid (Below w.heap.size w v) := by rw [ev]; exact ((Below.refl _ _).alloc (Nat.le_refl _) _).alloc (by simp) _
  have bI : Blk v w.heap.size 26 #[.int .i64 wd, .int .i64 hi, .slice (some ⟨b, off, none⟩) N c] := by rw [ev]; exact (Blk.new w _ _).alloc _
  have bR : Blk v (w.heap.size + 1) 26 #[.int .i64 0, .int .i64 0, .slice none 0 0] := by rw [ev]; exact Blk.new2 _ _ _ _
  have hvz : v.heap.size = w.heap.size + 1 + 1 := by rw [ev]; simp
  have hlt0 : w.heap.size < v.heap.size := by omega
  have k0 : ∀ w', Below (w.heap.size + 1) v w' → w'.cell? ⟨w.heap.size, 0, none⟩ = some (.int .i64 wd) ∧ w'.cell? ⟨w.heap.size, 1, none⟩ = some (.int .i64 hi) ∧ w'.cell? ⟨w.heap.size, 2, none⟩ = some (.slice (some ⟨b, off, none⟩) N c) := fun w' h => ⟨(h.cell (Nat.lt_succ_self _)).trans (bI.cell 0), (h.cell (Nat.lt_succ_self _)).trans (bI.cell 1), (h.cell (Nat.lt_succ_self _)).trans (bI.cell 2)⟩
  have K0 := Lib.hid k0
  have HR := Lib.hid bR
  have EV := Lib.hid ev
  obtain ⟨d0, d1, d2⟩ := k0 v (Below.refl _ _)
  clear hc k0 bI bR ev
  unfold sheetV
  go_enter Try.func26, Try.ntmps26
  go_wp2
  rw [← EV.out]
  go_region_held3 (fun w' => w'.cell? ⟨w.heap.size, 0, none⟩ = some (.int .i64 wd) ∧ w'.cell? ⟨w.heap.size, 1, none⟩ = some (.int .i64 hi) ∧ w'.cell? ⟨w.heap.size, 2, none⟩ = some (.slice (some ⟨b, off, none⟩) N c))
    (first | exact ⟨d0, d1, d2⟩ | exact K0.out _ HB2.out | exact K0.out _ (HB2.out.grown (blk_set3 R2.out _ _ _).2 (by have := HB2.out.size; omega) (fun k e => by injection e with e; omega)) | go_keep)
    (first
      | (go_at_call 51; refine (CL.out v.drew B0.out.drew).mono ?_
         rintro e w2 ⟨gg, cap, rfl, ho2, hb2⟩
         have O2 := Lib.hid ho2
         have HB2 := Lib.hid ((Below.refl (w.heap.size + 1) v).drew.trans (hb2.mono (by show _ ≤ v.heap.size; omega)))
         have R2 := Lib.hid (HR.out.drew.below hb2 HR.out.lt)
         have r0 : w2.cell? ⟨w.heap.size + 1, 0, none⟩ = some (.int .i64 0) := R2.out.cell 0
         have r1 : w2.cell? ⟨w.heap.size + 1, 1, none⟩ = some (.int .i64 0) := R2.out.cell 1
         have r2 : w2.cell? ⟨w.heap.size + 1, 2, none⟩ = some (.slice none 0 0) := R2.out.cell 2
         have f0 : w2.frozen? ⟨w.heap.size + 1, 0, none⟩ = false := R2.out.frozen 0
         have f1 : w2.frozen? ⟨w.heap.size + 1, 1, none⟩ = false := R2.out.frozen 1
         have f2 : w2.frozen? ⟨w.heap.size + 1, 2, none⟩ = false := R2.out.frozen 2))
  obtain ⟨R3, G3⟩ := blk_set3 R2.out (.int .i64 wd) (.int .i64 hi) (.slice (some ⟨gg, 0, none⟩) N cap)
  have HB3 := Lib.hid (HB2.out.grown G3 (by have := HB2.out.size; omega) (fun k e => by injection e with e; omega))
  have O3 := Lib.hid (own_grown' O2.out G3 (own_blk_ne O2.out R2.out (by decide)))
  have R3' := Lib.hid R3
  clear ho2 hb2 r0 r1 r2 f0 f1 f2 R3 G3 d0 d1 d2 R2 O2 HB2
  generalize ((w2.setCell ⟨w.heap.size + 1, 0, none⟩ (.int .i64 wd)).setCell ⟨w.heap.size + 1, 1, none⟩ (.int .i64 hi)).setCell ⟨w.heap.size + 1, 2, none⟩ (.slice (some ⟨gg, 0, none⟩) N cap) = w3 at *
  go_wp2
  refine bodyPost_ret (results_cell_row rfl _ w3 (w.heap.size + 1) 26 _ (0, 0) _ rfl R3'.out Try.underlying26 rfl (by kernel_rfl)) rfl ?_
  exact ⟨some ⟨gg, 0, none⟩, cap, rfl, own_base O3.out (by show _ ≤ v.heap.size; omega), B0.out.trans (HB3.out.mono (by omega))⟩
set_option maxRecDepth 100000 in
set_option maxHeartbeats 1000000 in
theorem l05Own_any (wd hi : Int) (N : Nat) (A : Option Addr) (c g : Nat) (cs : List Nat) (w : World) (hN : 1 ≤ N) (hN289 : N ≤ 289) (hl : cs.length = N) (hbk : Blk w g 26 #[.int .i64 wd, .int .i64 hi, .slice A N c]) (hA : Rd w w.heap.size 1 A N (cs.map fv)) :
    Calls Try.prog 37 #[.pointer (some ⟨g, 0, none⟩)] w (SheetOut wd hi N cs w) := by
  obtain ⟨i0, hi0, hz0, hz1, hz2⟩ := info_parts fltInfo
  obtain ⟨b, off, rfl, hbb, hc⟩ := hA.2 (by omega)
  have k0 : ∀ w', Below w.heap.size w w' → w'.cell? ⟨g, 0, none⟩ = some (.int .i64 wd) ∧ w'.cell? ⟨g, 1, none⟩ = some (.int .i64 hi) ∧ w'.cell? ⟨g, 2, none⟩ = some (.slice (some ⟨b, off, none⟩) N c) := fun w' h => ⟨(h.cell hbk.lt).trans (hbk.cell 0), (h.cell hbk.lt).trans (hbk.cell 1), (h.cell hbk.lt).trans (hbk.cell 2)⟩
  have K0 := Lib.hid k0
  have hgl := hbk.lt
  obtain ⟨v, ev⟩ : ∃ v, v = w.alloc (.cells #[.int .i64 0, .int .i64 0, .slice none 0 0] 26) := ⟨_, rfl⟩
  have B0 : Hid (Below w.heap.size w v) := by rw [ev]; exact (Below.refl _ _).alloc (Nat.le_refl _) _
  have bR : Blk v w.heap.size 26 #[.int .i64 0, .int .i64 0, .slice none 0 0] := by rw [ev]; exact Blk.new _ _ _
  have HR := Lib.hid bR
  have EV := Lib.hid ev
  obtain ⟨d0, d1, d2⟩ := k0 v B0.out
  have hvz : v.heap.size = w.heap.size + 1 := by rw [ev]; simp
  have HVZ := Lib.hid hvz
  have HC := Lib.hid hc
  have h1c : ∀ u ∈ cs.map fv, u.oneCell' = true := fun u hu => by
    simp only [List.mem_map] at hu
    obtain ⟨x, _, rfl⟩ := hu
    rfl
  have H1 := Lib.hid h1c
  have HL := Lib.hid hl
  clear k0 hbk ev bR hvz hc h1c hl
  go_enter Try.func37, Try.ntmps37
  go_wp2
  rw [← EV.out]
  have B1 : Hid (Below w.heap.size w (v.alloc (.cells #[] 30)).drew) := (B0.out.alloc B0.out.size _).drew
  have R1 : Hid (Blk (v.alloc (.cells #[] 30)).drew w.heap.size 26 #[.int .i64 0, .int .i64 0, .slice none 0 0]) := HR.out.alloc _
  have O1 : Hid ((v.alloc (.cells #[] 30)).drew.ownsRow w.heap.size 30 1 (.slice (some ⟨v.heap.size, 0, none⟩) 0 0) 0 []) := World.ownsRow_made v #[] 0 B0.out.size (by unfold maxLen; omega) rfl
  have C1 : Hid (∀ j u, (cs.map fv)[j]? = some u → (v.alloc (.cells #[] 30)).drew.cell? ((⟨b, off, none⟩ : Addr).add j) = some u) := fun j u hu => by
    rw [Addr.add_mid]
    exact (B1.out.cell hbb).trans (HC.out j u hu)
  go_region_held3 (fun w' => w'.cell? ⟨g, 0, none⟩ = some (.int .i64 wd) ∧ w'.cell? ⟨g, 1, none⟩ = some (.int .i64 hi) ∧ w'.cell? ⟨g, 2, none⟩ = some (.slice (some ⟨b, off, none⟩) N c))
    (first | exact ⟨d0, d1, d2⟩ | exact K0.out _ HB2.out | exact K0.out _ (HB2.out.grown (blk_set3 R2.out _ _ _).2 HB2.out.size (fun k e => by injection e with e; omega)) | go_keep)
    (first
      | (refine step_append_lies _ rfl _ _ _ rfl w.heap.size 30 i0 (.float .f32 0) 1 4 Try.underlying24 hi0 hz0 hz1 hz2 rfl (by omega) (.slice (some ⟨v.heap.size, 0, none⟩) 0 0) 0 [] (by rfl) O1.out ⟨b, off, none⟩ N c (cs.map fv) (by rfl) (by simp; exact HL.out) C1.out H1.out (by omega) (by unfold maxLen; omega) (by omega) (by have := B1.out.size; exact this) (v.heap.size + 1) (by simp) ?_
         intro gg cap w2 ho2 hg2 hd2 hlt2
         have HB2 := Lib.hid (B1.out.grown hg2 B1.out.size (fun k e => by have := (O1.out.lt k e).1; omega))
         have R2 := Lib.hid (R1.out.grown hg2 (own_blk_ne O1.out R1.out (by decide)))
         have O2 := Lib.hid ho2
         have r0 : w2.cell? ⟨w.heap.size, 0, none⟩ = some (.int .i64 0) := R2.out.cell 0
         have r1 : w2.cell? ⟨w.heap.size, 1, none⟩ = some (.int .i64 0) := R2.out.cell 1
         have r2 : w2.cell? ⟨w.heap.size, 2, none⟩ = some (.slice none 0 0) := R2.out.cell 2
         have f0 : w2.frozen? ⟨w.heap.size, 0, none⟩ = false := R2.out.frozen 0
         have f1 : w2.frozen? ⟨w.heap.size, 1, none⟩ = false := R2.out.frozen 1
         have f2 : w2.frozen? ⟨w.heap.size, 2, none⟩ = false := R2.out.frozen 2))
  obtain ⟨R3, G3⟩ := blk_set3 R2.out (.int .i64 wd) (.int .i64 hi) (.slice (some ⟨gg, 0, none⟩) N cap)
  have HB3 := Lib.hid (HB2.out.grown G3 HB2.out.size (fun k e => by injection e with e; omega))
  have O3 := Lib.hid (own_grown' O2.out G3 (own_blk_ne O2.out R2.out (by decide)))
  have R3' := Lib.hid R3
  rw [Nat.zero_add, List.nil_append] at O3
  clear ho2 hg2 hd2 hlt2 r0 r1 r2 f0 f1 f2 R3 G3 d0 d1 d2 R2 O2 HB2
  generalize ((w2.setCell ⟨w.heap.size, 0, none⟩ (.int .i64 wd)).setCell ⟨w.heap.size, 1, none⟩ (.int .i64 hi)).setCell ⟨w.heap.size, 2, none⟩ (.slice (some ⟨gg, 0, none⟩) N cap) = w3 at *
  go_wp2
  refine bodyPost_ret (results_cell_row rfl _ w3 w.heap.size 26 _ (0, 0) _ rfl R3'.out Try.underlying26 rfl (by kernel_rfl)) rfl ?_
  exact ⟨some ⟨gg, 0, none⟩, cap, rfl, O3.out, HB3.out⟩
end Go.Proofs.Ytoibgpmpngccjaa

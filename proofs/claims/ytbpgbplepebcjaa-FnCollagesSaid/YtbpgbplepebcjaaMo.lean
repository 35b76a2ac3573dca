/- Walk: the list of small maps that the reference draws out of bytes. Conditions: at most 2^20 bytes. -/
import Derived.Test.YtbpgbplepebcjaaMn
namespace Go.Proofs.Ytbpgbplepebcjaa
open Go.RowKit
open Num Quick
attribute [local go_sem] run_store_fl run_store_cx

theorem smallInfo : (Try.prog.info? 29).map (fun i => (i.zero, i.size, i.bytes)) = some (some (.agg #[.complex .f32 0 0, .complex .f32 0 0, .bool false, .float .f32 0]), 4, 24) := by kernel_rfl
theorem smCells_append (L : List Sm) (x : Sm) : smCells (L ++ [x]) = smCells L ++ x.cells := by unfold smCells; simp
theorem smCells_length (L : List Sm) : (smCells L).length = L.length * 4 := by
  induction L with
  | nil => rfl
  | cons x L ih => unfold smCells at *; simp [Sm.cells, ih]; omega
theorem one_cells (x : Sm) (w : World) : ∀ j u, x.cells[j]? = some u → (w.alloc (.cells #[.complex .f32 x.a x.b, .complex .f32 x.c x.d, .bool x.fl, .float .f32 x.s] 29)).cell? ((⟨w.heap.size, 0, none⟩ : Addr).add j) = some u :=
  World.news_of_block (heap_alloc_new w (.cells #[.complex .f32 x.a x.b, .complex .f32 x.c x.d, .bool x.fl, .float .f32 x.s] 29))
theorem one_cells' (x : Sm) (w : World) (m : Nat) (hm : w.heap.size = m) : ∀ j u, x.cells[j]? = some u → (w.alloc (.cells #[.complex .f32 x.a x.b, .complex .f32 x.c x.d, .bool x.fl, .float .f32 x.s] 29)).cell? ((⟨m, 0, none⟩ : Addr).add j) = some u := hm ▸ one_cells x w
/-- What is drawn. -/
def DrawnM (w : World) (e : Ending) (w' : World) : Prop := ∃ (L : List Sm) (N g c : Nat), e = .returned (.slice (some ⟨g, 0, none⟩) L.length c) ∧ L.length = N ∧ (N = 1 ∨ N = 2 ∨ N = 4) ∧ (∀ x ∈ L, x.ok N) ∧
  w'.ownsRow w.heap.size 29 4 (.slice (some ⟨g, 0, none⟩) L.length c) L.length (smCells L) ∧ Below w.heap.size w w'
set_option maxRecDepth 100000 in
set_option maxHeartbeats 8000000 in
theorem B10Smalls_any (n c : Nat) (A : Option Addr) (bs : List Nat) (w : World) (hn : n ≤ 1048576) (hc : n ≤ c) (hb : ∀ x ∈ bs, x < 256) (hA : Rd w w.heap.size 1 A n (bs.map u8v)) :
    Calls Try.prog 8 #[.slice A n c] w (DrawnM w) := by
  obtain ⟨i0, hi, hi0, hi1, hi2⟩ := info_parts smallInfo
  obtain ⟨u, eu⟩ : ∃ u, u = w.alloc (.cells #[.slice A n c, .int .i64 0, .int .u64 0] 99) := ⟨_, rfl⟩
  have hz : u.heap.size = w.heap.size + 1 := by rw [eu]; simp
  have S0 : Hid (Src u w.heap.size A n c 0 bs) := by
    rw [eu]
    exact ⟨⟨0, by omega, by omega, Blk.new _ _ _⟩, (hA.below ((Below.refl _ _).alloc (by omega) _)).more (by omega), hb, hn, hc⟩
  have G0 : Hid (Below w.heap.size w u) := by rw [eu]; exact (Below.refl _ _).alloc (Nat.le_refl _) _
  have FC : Hid (Calls Try.prog 39 #[.slice A n c] w fun e w' => e = .returned (.pointer (some ⟨w.heap.size, 0, none⟩)) ∧ w' = u) := by rw [eu]; exact l00From_any A n c w
  obtain ⟨v1, ev1⟩ : ∃ v1, v1 = u.alloc (.cells #[] 29) := ⟨_, rfl⟩
  obtain ⟨v, ev⟩ : ∃ v, v = v1.alloc (.cells #[.int .i64 1, .int .i64 2, .int .i64 2, .int .i64 4] 2) := ⟨_, rfl⟩
  have hzv1 : v1.heap.size = w.heap.size + 2 := by rw [ev1]; simp; omega
  have S1 : Hid (Src v w.heap.size A n c 0 bs) := by rw [ev, ev1]; exact (S0.out.alloc _).alloc _
  have G1 : Hid (Below w.heap.size w v) := by rw [ev, ev1]; exact (G0.out.alloc G0.out.size _).alloc (by simp; omega) _
  have M1 : Hid (v.ownsRow (w.heap.size + 1) 29 4 (.slice (some ⟨w.heap.size + 1, 0, none⟩) 0 0) 0 (smCells [])) := by
    rw [ev, ev1, ← hz]
    exact ((Blk.new u _ _).own (n := 0) (size := 4) (Nat.le_refl _) rfl (by unfold maxLen; omega)).alloc _
  have K1 : Hid (Blk v (w.heap.size + 1 + 1) 2 #[.int .i64 1, .int .i64 2, .int .i64 2, .int .i64 4]) := by rw [ev]; exact Blk.at_ _ _ _ (by rw [ev1]; simp [hz])
  have AC := Lib.hid (among_any w.heap.size n c 0 (w.heap.size + 1 + 1) A bs v (by omega) S1.out K1.out)
  have EV1 := Lib.hid ev1
  have EV := Lib.hid ev
  clear eu ev ev1 hA hb S0 G0
  go_enter Try.func8, Try.ntmps8
  go_wp2_with fail
  refine FC.out.mono ?_
  rintro e u' ⟨rfl, hu⟩
  obtain rfl := hu.symm
  go_wp2_with fail
  rw [← EV1.out, ← EV.out]
  refine AC.out.mono ?_
  rintro e w1 ⟨N, rfl, hN, hs1, hg1⟩
  have S2 := Lib.hid hs1
  have M2 := Lib.hid (own_grown' M1.out hg1 (fun e => by have := (M1.out.lt _ e.symm).1; omega))
  have G2 := Lib.hid (G1.out.grown hg1 (by have := G1.out.size; omega) (fun k e => by injection e with e; omega))
  have HN := Lib.hid hN
  have hN4 : N ≤ 4 := by omega
  obtain ⟨sw, sw1, sw2, sw3⟩ := share_of N hN
  have QS := r32 sw1
  have QI := rInt32 (N : Int)
  have SW2 := Lib.hid sw2
  have SW3 := Lib.hid sw3
  clear hs1 hg1 S1 M1 G1 FC AC EV EV1 K1 hN sw1 sw2 sw3
  go_wp2
  go_loopw [4, 6] (fun so sk wr => ∃ (k a : Nat) (L : List Sm) (g c' : Nat), so = .slice (some ⟨g, 0, none⟩) L.length c' ∧ sk = .int .i64 (k : Int) ∧ Hid (L.length = k) ∧ k ≤ N ∧ Hid (a ≤ 1000 + 100 * k) ∧ Hid (∀ x ∈ L, x.ok N) ∧
    Hid (wr.ownsRow (w.heap.size + 1) 29 4 (.slice (some ⟨g, 0, none⟩) L.length c') L.length (smCells L)) ∧ Hid (Src wr w.heap.size A n c a bs) ∧ Hid (Below w.heap.size w wr)) (fun _ sk _ => N - (intOf sk).toNat)
  case atStart => exact ⟨0, 1, [], _, _, rfl, rfl, rfl, Nat.zero_le _, by unfold Hid; omega, fun x hx => by simp at hx, M2, S2, G2⟩
  case round =>
    clear S2 M2 G2
    obtain ⟨k, a, L, g, c', rfl, rfl, HL, hkN, HAT, HO, HM, HS, HB⟩ := hrel
    have hat := HAT.out
    have hsz := HS.out.size
    by_cases hk : k < N
    · have PO := Lib.hid (one_any w.heap.size n c a 3 A bs wr (by omega) (by omega) (by omega) HS.out)
      go_wp2_with fail
      refine PO.out.mono ?_
      rintro e x1 ⟨fl, rfl, hs1, hg1⟩
      obtain ⟨v2, ev2⟩ : ∃ v2, v2 = x1.alloc (.cells #[.complex .f32 0 0, .complex .f32 0 0, .bool fl, .float .f32 sw] 29) := ⟨_, rfl⟩
      have M2 : Hid (v2.ownsRow (w.heap.size + 1) 29 4 (.slice (some ⟨g, 0, none⟩) L.length c') L.length (smCells L)) := by
        rw [ev2]
        exact (own_grown' HM.out hg1 (fun e => by have := (HM.out.lt _ e.symm).1; omega)).alloc _
      have S2 : Hid (Src v2 w.heap.size A n c (a + 1) bs) := by rw [ev2]; exact hs1.alloc _
      have B2 : Hid (Below w.heap.size w v2) := by
        rw [ev2]
        have := HB.out.grown hg1 HB.out.size (fun k e => by injection e with e; omega)
        exact this.alloc this.size _
      have T2 : Hid (Blk v2 x1.heap.size 29 #[.complex .f32 0 0, .complex .f32 0 0, .bool fl, .float .f32 sw]) := by rw [ev2]; exact Blk.new _ _ _
      have EV2 := Lib.hid ev2
      have hx1 : w.heap.size < x1.heap.size := by have := hg1.size; omega
      have hgx : g < x1.heap.size := Nat.lt_of_lt_of_le (HM.out.lt g (by simp [Value.ownBlock])).2 hg1.size
      clear hs1 hg1 ev2 PO HM HS HB
      have PC2 := Lib.hid (pick_any w.heap.size n c (a + 1) 4 A bs v2 (by omega) (by omega) (by omega) S2.out)
      go_wp2_with fail
      rw [← EV2.out]
      refine PC2.out.mono ?_
      rintro e w3 ⟨x, rfl, hx, hs3, hg3⟩
      obtain ⟨px, epx⟩ : ∃ p : Int, 1 + (x : Int) = p := ⟨_, rfl⟩
      obtain ⟨aw, aw1, aw2, aw3⟩ := eighth px (by omega) (by omega)
      have wpx : wrap64 px = px := IntWalk.wrap64_in _ (by omega)
      have QA := r32 aw1
      have QAI := rInt32 px
      have AW2 := Lib.hid (aw2.mono (C := 4) (by omega))
      have AW3 : Hid (1 / 8 ≤ Num.fv .f32 aw) := by
        unfold Hid
        rw [aw3]
        have : ((1 : Int) : Rat) ≤ ((px : Int) : Rat) := Rat.intCast_le_intCast.2 (by omega)
        rw [Rat.intCast_one] at this
        grind
      obtain ⟨gt, egt⟩ : ∃ gt, x1.heap.size = gt := ⟨_, rfl⟩
      rw [egt] at T2 hx1 hgx
      have GNE : Hid (g ≠ gt) := by unfold Hid; omega
      have M3 := Lib.hid (own_grown' M2.out hg3 (fun e => by have := (M2.out.lt _ e.symm).1; omega))
      have B3 := Lib.hid (B2.out.grown hg3 B2.out.size (fun k e => by injection e with e; omega))
      have T3 := Lib.hid (T2.out.grown hg3 (fun e => by injection e with e; omega))
      have S3 := Lib.hid hs3
      have PC3 := Lib.hid (pick_any w.heap.size n c (a + 1 + 1) 9 A bs w3 (by omega) (by omega) (by omega) S3.out)
      clear hs3 hg3 M2 B2 T2 S2 EV2 PC2 aw1 aw2 aw3 hx
      go_wp2_with fail
      refine PC3.out.mono ?_
      rintro e w4 ⟨y, rfl, hy, hs4, hg4⟩
      obtain ⟨py, epy⟩ : ∃ p : Int, (y : Int) - 4 = p := ⟨_, rfl⟩
      obtain ⟨bw, bw1, bw2, bw3⟩ := eighth py (by omega) (by omega)
      have wpy : wrap64 py = py := IntWalk.wrap64_in _ (by omega)
      have QB := r32 bw1
      have QBI := rInt32 py
      have BW2 := Lib.hid (bw2.mono (C := 4) (by omega))
      have M4 := Lib.hid (own_grown' M3.out hg4 (fun e => by have := (M3.out.lt _ e.symm).1; omega))
      have B4 := Lib.hid (B3.out.grown hg4 B3.out.size (fun k e => by injection e with e; omega))
      have T4 := Lib.hid (T3.out.grown hg4 (fun e => by injection e with e; omega))
      have S4 := Lib.hid hs4
      have t4c : w4.cell? ⟨gt, 0, none⟩ = some (.complex .f32 0 0) := T4.out.cell 0
      have t4f : w4.frozen? ⟨gt, 0, none⟩ = false := T4.out.frozen 0
      have gs5 := grown_set (World.grownBy.refl w4 (some gt)) (p := ⟨gt, 0, none⟩) rfl (.complex .f32 aw bw)
      obtain ⟨v5, ev5⟩ : ∃ v5, v5 = w4.setCell ⟨gt, 0, none⟩ (.complex .f32 aw bw) := ⟨_, rfl⟩
      rw [← ev5] at gs5
      have hgt : w.heap.size < gt := hx1
      have M5 : Hid (v5.ownsRow (w.heap.size + 1) 29 4 (.slice (some ⟨g, 0, none⟩) L.length c') L.length (smCells L)) := own_grown' M4.out gs5 (fun e => by
        have h1 : g = gt := by simpa [Value.ownBlock] using e.symm
        exact GNE.out h1)
      have B5 := Lib.hid (B4.out.grown gs5 B4.out.size (fun k e => by injection e with e; omega))
      have T5 : Hid (Blk v5 gt 29 #[.complex .f32 aw bw, .complex .f32 0 0, .bool fl, .float .f32 sw]) := by rw [ev5]; exact T4.out.set_ 0 _
      have S5 := Lib.hid (S4.out.grown' gs5 (fun k e => by injection e with e; omega))
      have EV5 := Lib.hid ev5
      have PC5 := Lib.hid (pick_any w.heap.size n c (a + 1 + 1 + 1) 9 A bs v5 (by omega) (by omega) (by omega) S5.out)
      clear hs4 hg4 M3 B3 T3 S3 PC3 bw1 bw2 bw3 hy gs5 ev5
      go_wp2_with fail
      rw [← EV5.out]
      refine PC5.out.mono ?_
      rintro e w6 ⟨z, rfl, hzz, hs6, hg6⟩
      obtain ⟨pz, epz⟩ : ∃ p : Int, (z : Int) - 4 = p := ⟨_, rfl⟩
      obtain ⟨cw, cw1, cw2, cw3⟩ := fourth pz (by omega) (by omega)
      have wpz : wrap64 pz = pz := IntWalk.wrap64_in _ (by omega)
      have QC := r32 cw1
      have QCI := rInt32 pz
      have CW2 := Lib.hid (cw2.mono (C := 4) (by omega))
      have M6 := Lib.hid (own_grown' M5.out hg6 (fun e => by have := (M5.out.lt _ e.symm).1; omega))
      have B6 := Lib.hid (B5.out.grown hg6 B5.out.size (fun k e => by injection e with e; omega))
      have T6 := Lib.hid (T5.out.grown hg6 (fun e => by injection e with e; omega))
      have S6 := Lib.hid hs6
      have PC6 := Lib.hid (pick_any w.heap.size n c (a + 1 + 1 + 1 + 1) 9 A bs w6 (by omega) (by omega) (by omega) S6.out)
      clear hs6 hg6 M5 B5 T5 S5 PC5 cw1 cw2 cw3 hzz EV5 t4c t4f
      go_wp2_with fail
      refine PC6.out.mono ?_
      rintro e w7 ⟨t, rfl, htt, hs7, hg7⟩
      obtain ⟨pt, ept⟩ : ∃ p : Int, (t : Int) - 4 = p := ⟨_, rfl⟩
      obtain ⟨dw, dw1, dw2, dw3⟩ := fourth pt (by omega) (by omega)
      have wpt : wrap64 pt = pt := IntWalk.wrap64_in _ (by omega)
      have QD := r32 dw1
      have QDI := rInt32 pt
      have DW2 := Lib.hid (dw2.mono (C := 4) (by omega))
      have M7 := Lib.hid (own_grown' M6.out hg7 (fun e => by have := (M6.out.lt _ e.symm).1; omega))
      have B7 := Lib.hid (B6.out.grown hg7 B6.out.size (fun k e => by injection e with e; omega))
      have T7 := Lib.hid (T6.out.grown hg7 (fun e => by injection e with e; omega))
      have S7 := Lib.hid hs7
      have t7c : w7.cell? ⟨gt, 1, none⟩ = some (.complex .f32 0 0) := T7.out.cell 1
      have t7f : w7.frozen? ⟨gt, 1, none⟩ = false := T7.out.frozen 1
      have t70 : w7.cell? ⟨gt, 0, none⟩ = some (.complex .f32 aw bw) := T7.out.cell 0
      have t72 : w7.cell? ⟨gt, 2, none⟩ = some (.bool fl) := T7.out.cell 2
      have t73 : w7.cell? ⟨gt, 3, none⟩ = some (.float .f32 sw) := T7.out.cell 3
      have gs8 := grown_set (World.grownBy.refl w7 (some gt)) (p := ⟨gt, 1, none⟩) rfl (.complex .f32 cw dw)
      have M8 : Hid ((w7.setCell ⟨gt, 1, none⟩ (.complex .f32 cw dw)).ownsRow (w.heap.size + 1) 29 4 (.slice (some ⟨g, 0, none⟩) L.length c') L.length (smCells L)) := own_grown' M7.out gs8 (fun e => by
        have h1 : g = gt := by simpa [Value.ownBlock] using e.symm
        exact GNE.out h1)
      have B8 := Lib.hid (B7.out.grown gs8 B7.out.size (fun k e => by injection e with e; omega))
      have S8 := Lib.hid (S7.out.grown' gs8 (fun k e => by injection e with e; omega))
      clear hs7 hg7 M6 B6 T6 S6 PC6 dw1 dw2 dw3 htt gs8
      have hz8 : (w7.setCell ⟨gt, 1, none⟩ (.complex .f32 cw dw)).heap.size = w7.heap.size := by simp
      have hok : Hid (Sm.ok N ⟨aw, bw, cw, dw, fl, sw⟩) := ⟨AW2.out, BW2.out, CW2.out, DW2.out, SW2.out, AW3.out, SW3.out⟩
      have MA := Lib.hid (M8.out.alloc (.cells #[.complex .f32 aw bw, .complex .f32 cw dw, .bool fl, .float .f32 sw] 29))
      have hzA : w.heap.size + 1 ≤ ((w7.setCell ⟨gt, 1, none⟩ (.complex .f32 cw dw)).alloc (.cells #[.complex .f32 aw bw, .complex .f32 cw dw, .bool fl, .float .f32 sw] 29)).heap.size := by
        have := (M8.out.lt g (by simp [Value.ownBlock])).1
        have := (M8.out.lt g (by simp [Value.ownBlock])).2
        simp; omega
      have S8A := Lib.hid (S8.out.alloc (.cells #[.complex .f32 aw bw, .complex .f32 cw dw, .bool fl, .float .f32 sw] 29))
      have hl4 : L.length + 1 ≤ 5 := by have := HL.out; omega
      have hz8' : w.heap.size + 1 ≤ w7.heap.size := by
        have := (M8.out.lt g (by simp [Value.ownBlock])).1
        have := (M8.out.lt g (by simp [Value.ownBlock])).2
        omega
      have HC := Lib.hid (one_cells' ⟨aw, bw, cw, dw, fl, sw⟩ (w7.setCell ⟨gt, 1, none⟩ (.complex .f32 cw dw)) w7.heap.size hz8)
      clear hz8
      go_wp2_with (first
        | (at_builtin; refine wpList_append_own_at (P := Try.prog) ((w7.setCell ⟨gt, 1, none⟩ (.complex .f32 cw dw)).alloc (.cells #[.complex .f32 aw bw, .complex .f32 cw dw, .bool fl, .float .f32 sw] 29)) rfl _ _ _ rfl (w.heap.size + 1) 29 i0 (.agg #[.complex .f32 0 0, .complex .f32 0 0, .bool false, .float .f32 0]) 4 24 Try.underlying24 hi hi0 hi1 hi2 rfl (by omega) (.slice (some ⟨g, 0, none⟩) L.length c') L.length (smCells L) rfl MA.out ⟨w7.heap.size, 0, none⟩ 1 1 _ rfl rfl HC.out (by simp [Sm.cells, Value.oneCell']) (by unfold maxLen; omega) (by omega) hzA ?_; intro v9 w9 ho9 hg9 hn9 hd9)
        | fail)
      obtain ⟨g9, c9, rfl, _, _⟩ := ho9.form (by omega)
      have hlo : ∀ k, (Value.slice (some ⟨g, 0, none⟩) L.length c').ownBlock = some k → w.heap.size + 1 ≤ k := fun k e => (MA.out.lt k e).1
      have S9 := Lib.hid (S8A.out.grown' hg9 (fun k e => by have := hlo k e; omega))
      have B9 := Lib.hid ((B8.out.alloc B8.out.size (.cells #[.complex .f32 aw bw, .complex .f32 cw dw, .bool fl, .float .f32 sw] 29)).grown hg9 (Nat.le_trans (by omega) hzA) (fun k e => by have := hlo k e; omega))
      have M9 : Hid (w9.ownsRow (w.heap.size + 1) 29 4 (.slice (some ⟨g9, 0, none⟩) (L ++ [(⟨aw, bw, cw, dw, fl, sw⟩ : Sm)]).length c9) (L ++ [(⟨aw, bw, cw, dw, fl, sw⟩ : Sm)]).length (smCells (L ++ [(⟨aw, bw, cw, dw, fl, sw⟩ : Sm)]))) := by
        rw [smCells_append, List.length_append, List.length_singleton]
        exact ho9
      clear ho9 hg9 hlo hn9 hd9 S8A MA M8 B8 S8 T7 S7 M7 B7 HC hzA
      go_wp2
      go_roundw
      case rel =>
        refine ⟨k + 1, a + 1 + 1 + 1 + 1 + 1, L ++ [⟨aw, bw, cw, dw, fl, sw⟩], g9, c9, by rw [List.length_append, List.length_singleton], by go_num, by unfold Hid; rw [List.length_append, List.length_singleton, HL.out], by omega, by unfold Hid; omega, fun y hy => ?_, M9, S9, B9⟩
        rw [List.mem_append] at hy
        rcases hy with hy | hy
        · exact HO.out y hy
        · simp at hy; subst hy; exact hok.out
      case measure => simp [intOf]; omega
    · obtain rfl : k = N := by omega
      go_wp2
      go_ret
      refine ⟨L, L.length, g, c', rfl, rfl, by rw [HL.out]; exact HN.out, by rw [HL.out]; exact HO.out, own_base HM.out (by omega), HB.out⟩
end Go.Proofs.Ytbpgbplepebcjaa

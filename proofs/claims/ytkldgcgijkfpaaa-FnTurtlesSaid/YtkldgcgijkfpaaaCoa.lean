/- Walk: points of eighths that the reference draws out of bytes, as a list. Conditions: at most 2^20 bytes, at most 16 points. -/
import Derived.Test.YtkldgcgijkfpaaaEa
import Derived.Test.YtkldgcgijkfpaaaApp
namespace Go.Proofs.Ytkldgcgijkfpaaa
open Go.RowKit
open Num Quick
attribute [local go_sem] run_store_fl run_store_cx

def cxv (p : Nat × Nat) : Value := .complex .f32 p.1 p.2
theorem cxInfo : (Try.prog.info? 37).map (fun i => (i.zero, i.size, i.bytes)) = some (some (.complex .f32 0 0), 1, 8) := by kernel_rfl
set_option maxRecDepth 100000 in
set_option maxHeartbeats 1000000 in
theorem l08DrawPoint_at (g n c at_ : Nat) (A : Option Addr) (bs : List Nat) (w : World) (hat : at_ ≤ 900) (h : Src w g A n c at_ bs) :
    Calls Try.prog 37 #[.pointer (some ⟨g, 0, none⟩)] w fun e w' => ∃ x y : Int, x.natAbs ≤ 16 ∧ y.natAbs ≤ 16 ∧ e = .returned (.complex .f32 (ew x) (ew y)) ∧ Src w' g A n c (at_ + 2) bs ∧ w.grownBy w' (some g) := by
  have P0 := Lib.hid (pick33_any g n c at_ A bs w (by omega) h)
  clear h
  go_enter Try.func37, Try.ntmps37
  go_wp2_with fail
  refine P0.out.mono ?_
  rintro e w1 ⟨z, hz, ⟨x, rfl, hxz, hx0, hx1⟩, hs, hg⟩
  have q1 := r32 (ew_ok hz).1
  have q2 := rInt32 z
  have P1 := Lib.hid (pick33_any g n c (at_ + 1) A bs w1 (by omega) hs)
  have HG := Lib.hid hg
  have wz : IntKind.i64.wrap z = z := IntWalk.i64_in _ (by omega)
  clear hs hg P0
  go_wp2_with fail
  refine P1.out.mono ?_
  rintro e w2 ⟨z', hz', ⟨x', rfl, hxz', hx0', hx1'⟩, hs, hg⟩
  have q1' := r32 (ew_ok hz').1
  have q2' := rInt32 z'
  have wz' : IntKind.i64.wrap z' = z' := IntWalk.i64_in _ (by omega)
  have HG2 := Lib.hid (grown_trans' HG.out hg)
  have HS2 := Lib.hid hs
  clear hs hg P1
  go_wp2
  go_ret
  exact ⟨z, z', hz, hz', rfl, HS2.out, HG2.out⟩
theorem cx_list (L : List (Nat × Nat)) : L.map cxv = (List.range L.length).map (fun i => cxv (L.getD i (0, 0))) := by
  apply List.ext_getElem?
  intro i
  rw [List.getElem?_map, List.getElem?_map]
  by_cases h : i < L.length
  · rw [List.getElem?_range h, List.getElem?_eq_getElem h]
    simp [List.getD_eq_getElem?_getD, List.getElem?_eq_getElem h]
  · rw [List.getElem?_eq_none (by simpa using h), List.getElem?_eq_none (by simpa using h)]
    rfl
/-- A number of eighths. -/
def Ew (z : Nat × Nat) : Prop := ∃ x y : Int, x.natAbs ≤ 16 ∧ y.natAbs ≤ 16 ∧ z = (ew x, ew y)
set_option maxRecDepth 100000 in
set_option maxHeartbeats 4000000 in
theorem R8Points_ok (m n c : Nat) (A : Option Addr) (bs : List Nat) (w : World) (hm : m ≤ 16) (hn : n ≤ 1048576) (hc : n ≤ c) (hb : ∀ x ∈ bs, x < 256) (hA : Rd w w.heap.size 1 A n (bs.map u8v)) :
    Calls Try.prog 20 #[.slice A n c, .int .i64 (m : Int)] w fun e w' => ∃ (P : Nat → Nat × Nat) (g c' : Nat), (∀ i, i < m → Ew (P i)) ∧ e = .returned (.slice (some ⟨g, 0, none⟩) m c') ∧ w'.ownsRow w.heap.size 37 1 (.slice (some ⟨g, 0, none⟩) m c') m ((List.range m).map (fun i => cxv (P i))) ∧ Below w.heap.size w w' := by
  obtain ⟨u, eu⟩ : ∃ u, u = w.alloc (.cells #[.slice A n c, .int .i64 0, .int .u64 0] 86) := ⟨_, rfl⟩
  have V0 : Hid (Below w.heap.size w u) := by rw [eu]; exact (Below.refl _ _).alloc (Nat.le_refl _) _
  have S0 : Hid (Src u w.heap.size A n c 0 bs) := by
    rw [eu]
    exact ⟨⟨0, by omega, by omega, Blk.new _ _ _⟩, hA.below ((Below.refl _ _).alloc (Nat.le_refl _) _), hb, hn, hc⟩
  have Z0 : Hid (w.heap.size + 1 ≤ u.heap.size) := S0.out.size
  have FC : Hid (Calls Try.prog 28 #[.slice A n c] w fun e w' => e = .returned (.pointer (some ⟨w.heap.size, 0, none⟩)) ∧ w' = u) := by rw [eu]; exact l00From_any A n c w
  clear eu hA
  obtain ⟨v, ev⟩ : ∃ v, v = u.alloc (.cells #[] 37) := ⟨_, rfl⟩
  have V1 : Hid (Below w.heap.size w v) := by rw [ev]; exact Lib.hid (V0.out.alloc V0.out.size _)
  have S1 : Hid (Src v w.heap.size A n c 0 bs) := by
    rw [ev]
    obtain ⟨⟨s, s1, s2, s3⟩, h2, h3, h4, h5⟩ := S0.out
    exact Lib.hid ⟨⟨s, s1, s2, s3.alloc _⟩, h2.below ((Below.refl _ _).alloc (Nat.le_of_lt S0.out.size) _), h3, h4, h5⟩
  have O1 : Hid (v.ownsRow (w.heap.size + 1) 37 1 (.slice (some ⟨u.heap.size, 0, none⟩) 0 0) 0 (([] : List (Nat × Nat)).map cxv)) := by
    rw [ev]
    exact Lib.hid (own_base ((Blk.new u _ _).own (n := 0) (size := 1) (Nat.le_refl _) rfl (by unfold maxLen; omega)) Z0.out)
  have EV := Lib.hid ev
  clear ev
  go_enter Try.func20, Try.ntmps20
  go_wp2_with fail
  refine FC.out.mono ?_
  rintro e u' ⟨rfl, hu⟩
  obtain rfl := hu.symm
  clear FC
  go_wp2
  rw [← EV.out]
  clear EV
  go_loopw [1, 6] (fun si so wr => ∃ (L : List (Nat × Nat)) (i g c' : Nat), si = .int .i64 ((m - i : Nat) : Int) ∧ i ≤ m ∧ so = .slice (some ⟨g, 0, none⟩) i c' ∧ Hid (L.length = i) ∧ Hid (∀ z ∈ L, Ew z) ∧ Hid (wr.ownsRow (w.heap.size + 1) 37 1 (.slice (some ⟨g, 0, none⟩) i c') i (L.map cxv)) ∧ Hid (Src wr w.heap.size A n c (2 * i) bs) ∧ Hid (Below w.heap.size w wr)) (fun si _ _ => (intOf si).toNat)
  case atStart => exact ⟨[], 0, u.heap.size, 0, rfl, Nat.zero_le _, rfl, Lib.hid rfl, Lib.hid fun z hz => absurd hz (by simp), O1, S1, V1⟩
  case round =>
    clear O1 S1 V1 S0 V0 Z0
    obtain ⟨L, i, g, c', rfl, hi, rfl, HL, HE, O, SR, V⟩ := hrel
    by_cases hlt : i < m
    · obtain ⟨k, hk⟩ : ∃ k, m - i = k := ⟨_, rfl⟩
      rw [hk]
      have hk0 : (0 : Int) < (k : Int) := by omega
      obtain ⟨k1, hk1⟩ : ∃ k1, m - (i + 1) = k1 := ⟨_, rfl⟩
      have hkk : (k : Int) - 1 = (k1 : Int) := by omega
      have hkm : k ≤ 16 := by omega
      have DP := Lib.hid (l08DrawPoint_at w.heap.size n c (2 * i) A bs wr (by omega) SR.out)
      have HK := Lib.hid (show m - i = k ∧ m - (i + 1) = k1 from ⟨hk, hk1⟩)
      clear hk hk1
      go_wp2_with fail
      refine DP.out.mono ?_
      rintro e w2 ⟨x, y, hx, hy, rfl, hs2, hg2⟩
      have SR2 := Lib.hid hs2
      have hlo : ∀ k, (Value.slice (some ⟨g, 0, none⟩) i c').ownBlock = some k → w.heap.size + 1 ≤ k := fun k e => (O.out.lt k e).1
      have O2 := Lib.hid (own_grown' O.out hg2 (fun e => by have := hlo _ e.symm; omega))
      have V2 := Lib.hid (V.out.grown hg2 V.out.size (fun k e => by injection e with e; omega))
      have EW : Hid (Ew (ew x, ew y)) := Lib.hid ⟨x, y, hx, hy, rfl⟩
      have hz2 : w.heap.size + 1 ≤ w2.heap.size := SR2.out.size
      obtain ⟨p, ep⟩ : ∃ p, ew x = p := ⟨_, rfl⟩
      obtain ⟨q, eq⟩ : ∃ q, ew y = q := ⟨_, rfl⟩
      rw [ep, eq] at EW ⊢
      clear hs2 hg2 hlo O V SR DP hx hy ep eq
      go_wp2_with (first
        | (at_builtin; refine wpList_append_one (P := Try.prog) (W := w2) rfl _ _ _ rfl (w.heap.size + 1) 37 (.complex .f32 0 0) 8 Try.underlying27 cxInfo rfl (some ⟨g, 0, none⟩) i c' (L.map cxv) rfl O2.out (.complex .f32 p q) w2.heap.size rfl rfl rfl (by unfold maxLen; omega) (by omega) hz2 ?_; intro A9 c9 w9 ho9 hg9 hd9)
        | fail)
      obtain ⟨g9, c9', e9, _, _⟩ := ho9.form (by omega)
      rw [e9] at ho9
      have hlo : ∀ k, (Value.slice (some ⟨g, 0, none⟩) i c').ownBlock = some k → w.heap.size + 1 ≤ k := fun k e => (O2.out.lt k e).1
      have V9 := Lib.hid (V2.out.grown hg9 V2.out.size (fun k e => by have := hlo k e; omega))
      have SR9 : Hid (Src w9 w.heap.size A n c (2 * (i + 1)) bs) := by
        obtain ⟨⟨s, s1, s2, s3⟩, h2, h3, h4, h5⟩ := SR2.out
        refine Lib.hid ⟨⟨s, s1, s2, s3.grown hg9 (fun e => by have := hlo _ e.symm; omega)⟩, h2.below ?_, h3, h4, h5⟩
        exact (Below.refl w.heap.size w2).grown hg9 (by omega) (fun k e => by have := hlo k e; omega)
      have O9 : Hid (w9.ownsRow (w.heap.size + 1) 37 1 (.slice (some ⟨g9, 0, none⟩) (i + 1) c9') (i + 1) ((L ++ [(p, q)]).map cxv)) := by
        rw [List.map_append, List.map_cons, List.map_nil]
        exact Lib.hid ho9
      have E9 := Lib.hid e9
      clear ho9 hg9 hlo hd9 e9 O2 V2 SR2
      go_wp2
      go_roundw
      case rel =>
        refine ⟨L ++ [(p, q)], i + 1, g9, c9', ?_, by omega, E9.out, Lib.hid (by have := HL.out; simp; omega), Lib.hid fun z hz => ?_, O9, SR9, V9⟩
        · rw [HK.out.2]
        · rcases List.mem_append.1 hz with h | h
          · exact HE.out z h
          · rw [List.mem_singleton.1 h]; exact EW.out
      case measure => simp [intOf]; omega
    · obtain rfl : i = m := by omega
      have h0 : ((i - i : Nat) : Int) = 0 := by omega
      rw [h0]
      go_wp2
      go_ret
      refine ⟨fun k => L.getD k (0, 0), g, c', fun k hk => ?_, rfl, ?_, V.out⟩
      · have hl := HL.out
        show Ew (L.getD k (0, 0))
        rw [List.getD_eq_getElem?_getD, List.getElem?_eq_getElem (by omega)]
        exact HE.out _ (List.getElem_mem _)
      · have := own_base O.out (show w.heap.size ≤ w.heap.size + 1 by omega)
        rw [cx_list, HL.out] at this
        exact this
end Go.Proofs.Ytkldgcgijkfpaaa

/- Walk: points that the reference draws out of bytes. Conditions: at most 2^20 bytes, at most 100 points. -/
import Derived.Test.YtbpgbplepebcjaaMo
namespace Go.Proofs.Ytbpgbplepebcjaa
open Go.RowKit
open Num Quick
attribute [local go_sem] run_store_fl run_store_cx

def cxv (p : Nat × Nat) : Value := .complex .f32 p.1 p.2
/-- A point that is drawn: in quarters, its parts at most 2. -/
def PtOk (p : Nat × Nat) : Prop := GF 2 8 p.1 ∧ GF 2 8 p.2
theorem cxInfo : (Try.prog.info? 26).map (fun i => (i.zero, i.size, i.bytes)) = some (some (.complex .f32 0 0), 1, 8) := by kernel_rfl
set_option maxRecDepth 100000 in
set_option maxHeartbeats 4000000 in
theorem B10Points_any (n c m : Nat) (A : Option Addr) (bs : List Nat) (w : World) (hm : m ≤ 100) (hn : n ≤ 1048576) (hc : n ≤ c) (hb : ∀ x ∈ bs, x < 256) (hA : Rd w w.heap.size 1 A n (bs.map u8v)) :
    Calls Try.prog 9 #[.slice A n c, .int .i64 (m : Int)] w fun e w' => ∃ (L : List (Nat × Nat)) (Ao : Option Addr) (c' : Nat), e = .returned (.slice Ao L.length c') ∧ L.length = m ∧ (∀ x ∈ L, PtOk x) ∧
      w'.ownsRow w.heap.size 26 1 (.slice Ao L.length c') L.length (L.map cxv) ∧ Below w.heap.size w w' := by
  obtain ⟨i0, hi, hi0, hi1, hi2⟩ := info_parts cxInfo
  obtain ⟨u, eu⟩ : ∃ u, u = w.alloc (.cells #[.slice A n c, .int .i64 0, .int .u64 0] 99) := ⟨_, rfl⟩
  have hz : u.heap.size = w.heap.size + 1 := by rw [eu]; simp
  have S0 : Hid (Src u w.heap.size A n c 0 bs) := by
    rw [eu]
    exact ⟨⟨0, by omega, by omega, Blk.new _ _ _⟩, (hA.below ((Below.refl _ _).alloc (by omega) _)).more (by omega), hb, hn, hc⟩
  have G0 : Hid (Below w.heap.size w u) := by rw [eu]; exact (Below.refl _ _).alloc (Nat.le_refl _) _
  have FC : Hid (Calls Try.prog 39 #[.slice A n c] w fun e w' => e = .returned (.pointer (some ⟨w.heap.size, 0, none⟩)) ∧ w' = u) := by rw [eu]; exact l00From_any A n c w
  obtain ⟨v, ev⟩ : ∃ v, v = u.alloc (.cells #[] 26) := ⟨_, rfl⟩
  have S1 : Hid (Src v w.heap.size A n c 0 bs) := by rw [ev]; exact S0.out.alloc _
  have G1 : Hid (Below w.heap.size w v) := by rw [ev]; exact G0.out.alloc G0.out.size _
  have M1 : Hid (v.ownsRow (w.heap.size + 1) 26 1 (.slice (some ⟨w.heap.size + 1, 0, none⟩) 0 0) 0 (([] : List (Nat × Nat)).map cxv)) := by
    rw [ev, ← hz]
    exact (Blk.new u _ _).own (n := 0) (size := 1) (Nat.le_refl _) rfl (by unfold maxLen; omega)
  have EV := Lib.hid ev
  clear eu ev hA hb S0 G0
  go_enter Try.func9, Try.ntmps9
  go_wp2_with fail
  refine FC.out.mono ?_
  rintro e u' ⟨rfl, hu⟩
  obtain rfl := hu.symm
  go_wp2
  rw [← EV.out]
  clear FC EV
  go_loopw [1, 6] (fun sn so wr => ∃ (k a : Nat) (L : List (Nat × Nat)) (g c' : Nat), so = .slice (some ⟨g, 0, none⟩) L.length c' ∧ sn = .int .i64 (k : Int) ∧ Hid (L.length + k = m) ∧ Hid (a ≤ 2 * L.length) ∧ Hid (∀ x ∈ L, PtOk x) ∧
    Hid (wr.ownsRow (w.heap.size + 1) 26 1 (.slice (some ⟨g, 0, none⟩) L.length c') L.length (L.map cxv)) ∧ Hid (Src wr w.heap.size A n c a bs) ∧ Hid (Below w.heap.size w wr)) (fun sn _ _ => (intOf sn).toNat)
  case atStart => exact ⟨m, 0, [], _, _, rfl, rfl, by unfold Hid; simp, by unfold Hid; omega, fun x hx => by simp at hx, M1, S1, G1⟩
  case round =>
    clear S1 M1 G1
    obtain ⟨k, a, L, g, c', rfl, rfl, HL, HAT, HO, HM, HS, HB⟩ := hrel
    have hat := HAT.out
    have hll := HL.out
    have hsz := HS.out.size
    by_cases hk : 0 < k
    · have hk1 : k ≤ 100 := by omega
      have wk : wrap64 ((k : Int) - 1) = ((k - 1 : Nat) : Int) := by rw [IntWalk.wrap64_in _ (by omega)]; omega
      have HAT := Lib.hid hat
      have hat2 : a ≤ 1000 := by omega
      have PC := Lib.hid (pick_any w.heap.size n c a 17 A bs wr (by omega) (by omega) (by omega) HS.out)
      clear hat hll
      go_wp2_with fail
      refine PC.out.mono ?_
      rintro e w3 ⟨x, rfl, hx, hs3, hg3⟩
      obtain ⟨px, epx⟩ : ∃ p : Int, (x : Int) - 8 = p := ⟨_, rfl⟩
      obtain ⟨aw, aw1, aw2, aw3⟩ := fourth px (by omega) (by omega)
      have wpx : wrap64 px = px := IntWalk.wrap64_in _ (by omega)
      have QA := r32 aw1
      have QAI := rInt32 px
      have AW2 := Lib.hid (aw2.mono (C := 8) (by omega))
      have M3 := Lib.hid (own_grown' HM.out hg3 (fun e => by have := (HM.out.lt _ e.symm).1; omega))
      have B3 := Lib.hid (HB.out.grown hg3 HB.out.size (fun k e => by injection e with e; omega))
      have S3 := Lib.hid hs3
      have PC3 := Lib.hid (pick_any w.heap.size n c (a + 1) 17 A bs w3 (by omega) (by omega) (by omega) S3.out)
      clear hs3 hg3 HM HB HS PC aw1 aw2 aw3 hx
      go_wp2_with fail
      refine PC3.out.mono ?_
      rintro e w4 ⟨y, rfl, hy, hs4, hg4⟩
      obtain ⟨py, epy⟩ : ∃ p : Int, (y : Int) - 8 = p := ⟨_, rfl⟩
      obtain ⟨bw, bw1, bw2, bw3⟩ := fourth py (by omega) (by omega)
      have wpy : wrap64 py = py := IntWalk.wrap64_in _ (by omega)
      have QB := r32 bw1
      have QBI := rInt32 py
      have BW2 := Lib.hid (bw2.mono (C := 8) (by omega))
      have M4 := Lib.hid (own_grown' M3.out hg4 (fun e => by have := (M3.out.lt _ e.symm).1; omega))
      have B4 := Lib.hid (B3.out.grown hg4 B3.out.size (fun k e => by injection e with e; omega))
      have S4 := Lib.hid hs4
      have hzA : w.heap.size + 1 ≤ w4.heap.size := by
        have := (M4.out.lt g (by simp [Value.ownBlock])).1
        have := (M4.out.lt g (by simp [Value.ownBlock])).2
        omega
      have hl5 : L.length + 1 ≤ 200 := by have := HL.out; omega
      clear hs4 hg4 M3 B3 S3 PC3 bw1 bw2 bw3 hy
      go_wp2_with (first
        | (at_builtin; refine wpList_append_one (P := Try.prog) (W := w4) rfl _ _ _ rfl (w.heap.size + 1) 26 (.complex .f32 0 0) 8 Try.underlying30 cxInfo rfl (some ⟨g, 0, none⟩) L.length c' (L.map cxv) rfl M4.out (.complex .f32 aw bw) w4.heap.size rfl rfl rfl (by unfold maxLen; omega) (by omega) hzA ?_; intro A9 c9 w9 ho9 hg9 hd9)
        | fail)
      obtain ⟨g9, c9', e9, _, _⟩ := ho9.form (by omega)
      rw [e9] at ho9
      have hlo : ∀ k, (Value.slice (some ⟨g, 0, none⟩) L.length c').ownBlock = some k → w.heap.size + 1 ≤ k := fun k e => (M4.out.lt k e).1
      have S9 := Lib.hid (S4.out.grown' hg9 (fun k e => by have := hlo k e; omega))
      have B9 := Lib.hid (B4.out.grown hg9 B4.out.size (fun k e => by have := hlo k e; omega))
      have M9 : Hid (w9.ownsRow (w.heap.size + 1) 26 1 (.slice (some ⟨g9, 0, none⟩) (L ++ [(aw, bw)]).length c9') (L ++ [(aw, bw)]).length ((L ++ [(aw, bw)]).map cxv)) := by
        rw [List.length_append, List.length_singleton, List.map_append]
        exact ho9
      have E9 := Lib.hid e9
      clear ho9 hg9 hlo hd9 e9 M4 B4 S4 hzA
      go_wp2
      go_roundw
      case rel =>
        refine ⟨k - 1, a + 1 + 1, L ++ [(aw, bw)], g9, c9', by rw [List.length_append, List.length_singleton]; exact E9.out, by go_num, by unfold Hid; rw [List.length_append, List.length_singleton]; have := HL.out; omega, by unfold Hid; rw [List.length_append, List.length_singleton]; have := HAT.out; omega, fun y hy => ?_, M9, S9, B9⟩
        rw [List.mem_append] at hy
        rcases hy with hy | hy
        · exact HO.out y hy
        · simp at hy; subst hy; exact ⟨AW2.out, BW2.out⟩
      case measure => simp [intOf]; omega
    · obtain rfl : k = 0 := by omega
      go_wp2
      go_ret
      exact ⟨L, _, c', rfl, by have := HL.out; omega, HO.out, own_base HM.out (by omega), HB.out⟩
end Go.Proofs.Ytbpgbplepebcjaa

/- Walk: a sheet that the reference draws out of bytes. Conditions: at most 2^20 bytes. -/
import Derived.Test.YtoibgpmpngccjaaHd
import Derived.Test.YtoibgpmpngccjaaSlb
import Derived.Test.YtoibgpmpngccjaaSlc
import Derived.Test.YtoibgpmpngccjaaApp
import Derived.Test.YtoibgpmpngccjaaHc
import Derived.Deep.RegionLaw
import Derived.Deep.AppendLies
namespace Go.Proofs.Ytoibgpmpngccjaa
open Go.RowKit
open Num Quick
attribute [local go_sem] run_store_fl

/-- A height that is drawn: in quarters, at most 4. -/
def Qtr (x : Nat) : Prop := ∃ m : Int, m.natAbs ≤ 16 ∧ Gn 2 m x
set_option maxRecDepth 100000 in
set_option maxHeartbeats 4000000 in
theorem B10Sheet_any (n c : Nat) (A : Option Addr) (bs : List Nat) (w : World) (hn : n ≤ 1048576) (hc : n ≤ c) (hb : ∀ x ∈ bs, x < 256) (hA : Rd w w.heap.size 1 A n (bs.map u8v)) :
    Calls Try.prog 5 #[.slice A n c] w fun e w' => ∃ (W H : Nat) (xs : List Nat) (Ao : Option Addr) (co : Nat), e = .returned (sheetV (W : Int) (H : Int) Ao xs.length co) ∧ 1 ≤ W ∧ W ≤ 6 ∧ 1 ≤ H ∧ H ≤ 6 ∧ xs.length = W * H ∧ (∀ x ∈ xs, Qtr x) ∧
      w'.ownsRow w.heap.size 30 1 (.slice Ao xs.length co) xs.length (xs.map fv) ∧ Below w.heap.size w w' := by
  obtain ⟨i0, hi0, hz0, hz1, hz2⟩ := info_parts fltInfo
  obtain ⟨r0, er⟩ : ∃ r0, r0 = w.alloc (.cells #[.int .i64 0, .int .i64 0, .slice none 0 0] 26) := ⟨_, rfl⟩
  obtain ⟨v, ev⟩ : ∃ v, v = r0.alloc (.cells #[.slice A n c, .int .i64 0, .int .u64 0] 74) := ⟨_, rfl⟩
  have zr : r0.heap.size = w.heap.size + 1 := by rw [er]; simp
  have R00 : Blk r0 w.heap.size 26 #[.int .i64 0, .int .i64 0, .slice none 0 0] := by rw [er]; exact Blk.new _ _ _
  have B00 : Below w.heap.size w r0 := by rw [er]; exact (Below.refl _ _).alloc (Nat.le_refl _) _
  obtain ⟨g, eg⟩ : ∃ g, r0.heap.size = g := ⟨_, rfl⟩
  have S0 : Hid (Src v g A n c 0 bs) := by
    rw [ev, ← eg]
    exact ⟨⟨0, by omega, by omega, Blk.new _ _ _⟩, ((hA.below B00).more (by omega)).below ((Below.refl _ _).alloc (Nat.le_refl _) _), hb, hn, hc⟩
  have R0 : Hid (Blk v w.heap.size 26 #[.int .i64 0, .int .i64 0, .slice none 0 0]) := by rw [ev]; exact R00.alloc _
  have G0 : Hid (Below w.heap.size w v) := by rw [ev]; exact B00.alloc (by omega) _
  have hgw : w.heap.size < g := by omega
  have FC : Hid (Calls Try.prog 19 #[.slice A n c] r0 fun e w' => e = .returned (.pointer (some ⟨g, 0, none⟩)) ∧ w' = v) := by rw [ev, ← eg]; exact l00From_any A n c r0
  have PC := Lib.hid (fun k a w' (hk : 2 ≤ k ∧ k ≤ 200) (ha : a ≤ 1099511627776) (hs : Src w' g A n c a bs) => pick_any g n c a k A bs w' ha hk.1 hk.2 hs)
  have ER := Lib.hid er
  have P0 := Lib.hid (PC.out 6 0 v ⟨by omega, by omega⟩ (by omega) S0.out)
  clear er ev eg R00 B00 hA hb zr
  go_enter Try.func5, Try.ntmps5
  go_wp2_with fail
  rw [← ER.out]
  refine FC.out.mono ?_
  rintro e u' ⟨rfl, hu⟩
  obtain rfl := hu.symm
  go_wp2_with fail
  refine P0.out.mono ?_
  rintro e w1 ⟨x, rfl, hx, hs1, hg1⟩
  obtain ⟨W, eW⟩ : ∃ W : Nat, 1 + x = W := ⟨_, rfl⟩
  have hW1 : (1 : Int) + (x : Int) = (W : Int) := by omega
  obtain ⟨w2, ew2⟩ : ∃ w2, w2 = w1.alloc (.cells #[.int .i64 (W : Int), .int .i64 0, .slice none 0 0] 26) := ⟨_, rfl⟩
  have S2 : Hid (Src w2 g A n c (0 + 1) bs) := by rw [ew2]; exact hs1.alloc _
  have R2 : Hid (Blk w2 w.heap.size 26 #[.int .i64 0, .int .i64 0, .slice none 0 0]) := by rw [ew2]; exact (R0.out.grown hg1 (fun e => by injection e with e; omega)).alloc _
  have F2 : Hid (Blk w2 w1.heap.size 26 #[.int .i64 (W : Int), .int .i64 0, .slice none 0 0]) := by rw [ew2]; exact Blk.new _ _ _
  have G1 := Lib.hid (G0.out.grown hg1 G0.out.size (fun k e => by injection e with e; omega))
  have G2 : Hid (Below w.heap.size w w2) := by rw [ew2]; exact G1.out.alloc G1.out.size _
  have hg3 : g < w1.heap.size := hs1.size
  have EW2 := Lib.hid ew2
  have P2 := Lib.hid (PC.out 6 (0 + 1) w2 ⟨by omega, by omega⟩ (by omega) S2.out)
  clear hs1 hg1 ew2 S0 R0 G0 P0 G1 FC ER
  go_wp2_with fail
  rw [← EW2.out]
  refine P2.out.mono ?_
  rintro e w3 ⟨y, rfl, hy, hs3, hg3'⟩
  obtain ⟨g3, eg3⟩ : ∃ g3, w1.heap.size = g3 := ⟨_, rfl⟩
  rw [eg3] at F2 hg3
  obtain ⟨H, eH⟩ : ∃ H : Nat, 1 + y = H := ⟨_, rfl⟩
  have hH1 : (1 : Int) + (y : Int) = (H : Int) := by omega
  have F3 := Lib.hid (F2.out.grown hg3' (fun e => by injection e with e; omega))
  have R3 := Lib.hid (R2.out.grown hg3' (fun e => by injection e with e; omega))
  have G3 := Lib.hid (G2.out.grown hg3' G2.out.size (fun k e => by injection e with e; omega))
  have S3 := Lib.hid hs3
  have f1 : w3.frozen? ⟨g3, 1, none⟩ = false := F3.out.frozen 1
  have c1 : w3.cell? ⟨g3, 1, none⟩ = some (.int .i64 0) := F3.out.cell 1
  have gs := grown_set (World.grownBy.refl w3 (some g3)) (p := ⟨g3, 1, none⟩) rfl (.int .i64 (H : Int))
  obtain ⟨w4, ew4⟩ : ∃ w4, w4 = w3.setCell ⟨g3, 1, none⟩ (.int .i64 (H : Int)) := ⟨_, rfl⟩
  rw [← ew4] at gs
  have F4 : Hid (Blk w4 g3 26 #[.int .i64 (W : Int), .int .i64 (H : Int), .slice none 0 0]) := by rw [ew4]; exact F3.out.set_ 1 _
  have R4 := Lib.hid (R3.out.grown gs (fun e => by injection e with e; omega))
  have S4 := Lib.hid (S3.out.grown gs (by omega))
  have G4 := Lib.hid (G3.out.grown gs G3.out.size (fun k e => by injection e with e; omega))
  have d0 : w4.cell? ⟨g3, 0, none⟩ = some (.int .i64 (W : Int)) := F4.out.cell 0
  have d1 : w4.cell? ⟨g3, 1, none⟩ = some (.int .i64 (H : Int)) := F4.out.cell 1
  obtain ⟨N, eN⟩ : ∃ N, W * H = N := ⟨_, rfl⟩
  have hN : (W : Int) * (H : Int) = (N : Int) := by rw [← eN]; simp
  have hN36 : N ≤ 36 := by have := Nat.mul_le_mul (show W ≤ 6 by omega) (show H ≤ 6 by omega); omega
  have EN := Lib.hid eN
  have EW4 := Lib.hid ew4
  rw [ew4] at d0 d1
  clear hs3 hg3' ew4 gs F2 R2 G2 S2 P2 EW2 F3 R3 G3 S3 eN
  go_wp2
  rw [← EW4.out]
  clear EW4 f1 c1 eg3
  go_loopw [5] (fun si wr => ∃ (k j : Nat) (xs : List Nat) (Ac : Option Addr) (cc a' : Nat), si = .int .i64 (k : Int) ∧ k + j = N ∧ Hid (xs.length = j) ∧ Hid (∀ x ∈ xs, Qtr x) ∧ Hid (Blk wr g3 26 #[.int .i64 (W : Int), .int .i64 (H : Int), .slice Ac j cc]) ∧
    Hid (Blk wr w.heap.size 26 #[.int .i64 0, .int .i64 0, .slice none 0 0]) ∧ Hid (wr.ownsRow g3 30 1 (.slice Ac j cc) j (xs.map fv)) ∧ Hid (Src wr g A n c a' bs) ∧ a' ≤ 2 + j ∧ Hid (Below w.heap.size w wr)) (fun si _ => (intOf si).toNat)
  case atStart => exact ⟨N, 0, [], none, 0, 0 + 1 + 1, rfl, rfl, rfl, fun x hx => absurd hx (by simp), F4.out, R4.out, World.ownsRow_nil _ _ _ _, S4.out, by omega, G4.out⟩
  case round =>
    clear F4 R4 G4 S4 d0 d1
    obtain ⟨k, j, xs, Ac, cc, a', rfl, hkj, HCL, HQ, F, R, O, S, ha', G⟩ := hrel
    by_cases hlt : 0 < k
    · have PX := Lib.hid (PC.out 33 a' wr.drew ⟨by omega, by omega⟩ (by omega) (S.out.below ((Below.refl _ _).drew)))
      have d2 : wr.cell? ⟨g3, 2, none⟩ = some (.slice Ac j cc) := F.out.cell 2
      have d2' : wr.drew.cell? ⟨g3, 2, none⟩ = some (.slice Ac j cc) := F.out.cell 2
      have hg3r := F.out.lt
      have hgr := R.out.lt
      go_wp2
      go_region_law (first
        | (refine step_enter rfl 20 #[.pointer (some ⟨g, 0, none⟩), .int .i64 33] (by go_simp) _ PX.out ?_
           rintro e w7 ⟨x7, rfl, hx7, hs7, hg7⟩
           refine ⟨_, rfl, ?_⟩
           obtain ⟨z7, ez7⟩ : ∃ z : Int, (x7 : Int) - 16 = z := ⟨_, rfl⟩
           obtain ⟨hw, q1, q2⟩ := gn_quo z7 2 _ c4.1 c4.2 (by omega) (by omega)
           have Q1 := r32 q1
           have QI := rInt32 z7
           have wz7 : IntKind.i64.wrap z7 = z7 := IntWalk.i64_in _ (by omega)
           have QT : Hid (Qtr hw) := ⟨z7, by omega, q2⟩
           have F7 := Lib.hid (F.out.drew.grown hg7 (fun e => by injection e with e; omega))
           have R7 := Lib.hid (R.out.drew.grown hg7 (fun e => by injection e with e; omega))
           have O7 := Lib.hid (own_grown' (w := wr.drew) O.out hg7 (fun e => by have := (O.out.lt g e.symm).1; omega))
           have G7 := Lib.hid (G.out.drew.grown hg7 G.out.size (fun k e => by injection e with e; omega))
           have S7 := Lib.hid hs7
           have F8 := Lib.hid (F7.out.alloc (.cells #[.float .f32 hw] 30))
           have O8 := Lib.hid (O7.out.alloc (.cells #[.float .f32 hw] 30))
           have h7 : w7.cell? ⟨g3, 2, none⟩ = some (.slice Ac j cc) := F7.out.cell 2
           have h8 : (w7.alloc (.cells #[.float .f32 hw] 30)).cell? ⟨g3, 2, none⟩ = some (.slice Ac j cc) := F8.out.cell 2
           have C8 : Hid (∀ j u, ([.float .f32 hw] : List Value)[j]? = some u → (w7.alloc (.cells #[.float .f32 hw] 30)).cell? ((⟨w7.heap.size, 0, none⟩ : Addr).add j) = some u) := World.news_of_block (heap_alloc_new w7 (.cells #[.float .f32 hw] 30))
           have hne7 : ¬ g3 = w7.heap.size := by have := F7.out.lt; omega
           clear q1 q2)
        | (refine step_append_lies _ rfl _ _ _ rfl g3 30 i0 (.float .f32 0) 1 4 Try.underlying24 hi0 hz0 hz1 hz2 rfl (by omega) (.slice Ac j cc) j (xs.map fv) (by rfl) O8.out ⟨w7.heap.size, 0, none⟩ 1 1 [.float .f32 hw] (by rfl) (by simp) C8.out (by simp [Value.oneCell']) (by omega) (by unfold maxLen; omega) (by omega) (by have := F7.out.lt; simp; omega) (w7.heap.size + 1) (by simp) ?_
           intro gg cap w9 ho9 hg9 hd9 hlt9
           have F9 := Lib.hid (F8.out.grown hg9 (own_blk_ne O8.out F8.out (by decide)))
           have e9 := F9.out.cell 2
           have f9 := F9.out.frozen 2))
      all_goals
        clear wz7
        have gs10 := Lib.hid (grown_set (World.grownBy.refl w9 (some g3)) (p := ⟨g3, 2, none⟩) rfl (.slice (some ⟨gg, 0, none⟩) (j + 1) cap))
        have F10 : Hid (Blk (w9.setCell ⟨g3, 2, none⟩ (.slice (some ⟨gg, 0, none⟩) (j + 1) cap)) g3 26 #[.int .i64 (W : Int), .int .i64 (H : Int), .slice (some ⟨gg, 0, none⟩) (j + 1) cap]) := F9.out.set_ 2 _
        have R9 := Lib.hid ((R7.out.alloc (.cells #[.float .f32 hw] 30)).grown hg9 (own_blk_ne O8.out (R7.out.alloc _) (by decide)))
        have R10 := Lib.hid (R9.out.grown gs10.out (fun e => by injection e with e; omega))
        have O10 := Lib.hid (own_grown' ho9 gs10.out (own_blk_ne ho9 F9.out (by decide)))
        have S9 := Lib.hid ((S7.out.alloc (.cells #[.float .f32 hw] 30)).grown' hg9 (fun k e => by have := (O8.out.lt k e).1; omega))
        have S10 := Lib.hid (S9.out.grown gs10.out (by omega))
        have G8 := Lib.hid (G7.out.alloc G7.out.size (.cells #[.float .f32 hw] 30))
        have G9 := Lib.hid (G8.out.grown hg9 G8.out.size (fun k e => by have := (O8.out.lt k e).1; omega))
        have G10 := Lib.hid (G9.out.grown gs10.out G9.out.size (fun k e => by injection e with e; omega))
        have hmap : xs.map fv ++ [.float .f32 hw] = (xs ++ [hw]).map fv := by simp [fv]
        rw [hmap] at O10
        have HCL2 : Hid ((xs ++ [hw]).length = j + 1) := by unfold Hid; rw [List.length_append, HCL.out]; rfl
        have HQ2 : Hid (∀ x ∈ xs ++ [hw], Qtr x) := fun x hx => by
          rw [List.mem_append] at hx
          rcases hx with hx | hx
          · exact HQ.out x hx
          · rw [List.mem_singleton] at hx; rw [hx]; exact QT.out
        clear ho9 hg9 hd9 e9 f9 F9 R9 S9 G9 gs10 hmap
        generalize w9.setCell ⟨g3, 2, none⟩ (.slice (some ⟨gg, 0, none⟩) (j + 1) cap) = w10 at *
        go_wp2
        go_roundw
        case rel => exact ⟨k - 1, j + 1, xs ++ [hw], some ⟨gg, 0, none⟩, cap, a' + 1, by go_num, by omega, HCL2, HQ2, F10, R10, O10, S10, by omega, G10⟩
        case measure => simp [intOf]; omega
    · obtain rfl : k = 0 := by omega
      have hjN : j = N := by omega
      have hcl := HCL.out
      go_wp2_with (first
        | (refine wpList_load_blk rfl _ _ rfl g3 0 rfl 26 _ F.out [.int .i64 (W : Int), .int .i64 (H : Int), .slice Ac j cc] rfl _ Try.underlying26 rfl (by kernel_rfl) ?_)
        | (refine wpList_store_blk rfl _ _ _ rfl w.heap.size 0 rfl _ rfl [.int .i64 (W : Int), .int .i64 (H : Int), .slice Ac j cc] rfl 26 _ #[.int .i64 (W : Int), .int .i64 (H : Int), .slice Ac j cc] R.out (by kernel_rfl) (by simp) (by simp [Value.oneCell']) rfl ?_; intro w9 k9 g9)
        | fail)
      refine bodyPost_ret (results_cell_row rfl _ w9 w.heap.size 26 _ (0, 0) _ rfl k9 Try.underlying26 rfl (by kernel_rfl)) rfl ?_
      refine ⟨W, H, xs, Ac, cc, ?_, by omega, by omega, by omega, by omega, by rw [EN.out, hcl, hjN], HQ.out, ?_, G.out.grown g9 G.out.size (fun k e => by injection e with e; omega)⟩
      · rw [hcl]
        rfl
      · rw [hcl]
        exact own_base (own_grown' O.out g9 (own_blk_ne O.out R.out (by decide))) (by omega)
end Go.Proofs.Ytoibgpmpngccjaa

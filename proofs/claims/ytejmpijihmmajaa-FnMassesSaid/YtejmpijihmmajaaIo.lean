/- Walks: a field that the reference draws out of bytes. Conditions: at most 2^20 bytes. -/
import Derived.Test.YtejmpijihmmajaaIn
import Derived.Test.YtejmpijihmmajaaIs
import Derived.Test.YtejmpijihmmajaaFd
import Derived.Test.YtejmpijihmmajaaApp
import Derived.Deep.RegionLaw
import Derived.Deep.AppendLies
namespace Go.Proofs.Ytejmpijihmmajaa
open Go.RowKit

set_option maxRecDepth 100000 in
set_option maxHeartbeats 4000000 in
theorem l07DrawOk_any (g n c at_ : Nat) (A : Option Addr) (bs : List Nat) (w : World) (hat : at_ ≤ 1048576) (h : Src w g A n c at_ bs) :
    Calls Try.prog 16 #[.pointer (some ⟨g, 0, none⟩)] w fun e w' => ∃ (W H : Nat) (cs : List Bool) (Ao : Option Addr) (co a' : Nat), e = .returned (fieldV (W : Int) (H : Int) Ao cs.length co) ∧ 1 ≤ W ∧ W ≤ 6 ∧ 1 ≤ H ∧ H ≤ 6 ∧ cs.length = W * H ∧
      w'.ownsRow w.heap.size 4 1 (.slice Ao cs.length co) cs.length (cs.map bv) ∧ Src w' g A n c a' bs ∧ a' ≤ at_ + 39 ∧ w.grownBy w' (some g) := by
  obtain ⟨i0, hi0, hz0, hz1, hz2⟩ := info_parts boolInfo
  have PC := Lib.hid (fun k a w' (hk : 2 ≤ k ∧ k ≤ 200) (ha : a ≤ 1099511627776) (hs : Src w' g A n c a bs) => pick_any g n c a k A bs w' ha hk.1 hk.2 hs)
  obtain ⟨v, ev⟩ : ∃ v, v = w.alloc (.cells #[.int .i64 0, .int .i64 0, .slice none 0 0] 26) := ⟨_, rfl⟩
  have S0 : Hid (Src v g A n c at_ bs) := by rw [ev]; exact h.alloc _
  have R0 : Hid (Blk v w.heap.size 26 #[.int .i64 0, .int .i64 0, .slice none 0 0]) := by rw [ev]; exact Blk.new _ _ _
  have G0 : Hid (w.grownBy v (some g)) := by rw [ev]; exact World.grownBy_alloc _ _ _
  have hgw : g < w.heap.size := h.size
  have EV := Lib.hid ev
  have P0 := Lib.hid (PC.out 6 at_ v ⟨by omega, by omega⟩ (by omega) S0.out)
  clear h ev
  go_enter Try.func16, Try.ntmps16
  go_wp2_with fail
  rw [← EV.out]
  refine P0.out.mono ?_
  rintro e w1 ⟨x, rfl, hx, hs1, hg1⟩
  obtain ⟨W, eW⟩ : ∃ W : Nat, 1 + x = W := ⟨_, rfl⟩
  have hW1 : (1 : Int) + (x : Int) = (W : Int) := by omega
  obtain ⟨w2, ew2⟩ : ∃ w2, w2 = w1.alloc (.cells #[.int .i64 (W : Int), .int .i64 0, .slice none 0 0] 26) := ⟨_, rfl⟩
  have S2 : Hid (Src w2 g A n c (at_ + 1) bs) := by rw [ew2]; exact hs1.alloc _
  have R2 : Hid (Blk w2 w.heap.size 26 #[.int .i64 0, .int .i64 0, .slice none 0 0]) := by rw [ew2]; exact (R0.out.grown hg1 (fun e => by injection e with e; omega)).alloc _
  have F2 : Hid (Blk w2 w1.heap.size 26 #[.int .i64 (W : Int), .int .i64 0, .slice none 0 0]) := by rw [ew2]; exact Blk.new _ _ _
  have G2 : Hid (w.grownBy w2 (some g)) := by rw [ew2]; exact grown_alloc' (grown_trans' G0.out hg1) _
  have hg3 : w.heap.size < w1.heap.size := Nat.lt_of_lt_of_le R0.out.lt hg1.size
  have EW2 := Lib.hid ew2
  have P2 := Lib.hid (PC.out 6 (at_ + 1) w2 ⟨by omega, by omega⟩ (by omega) S2.out)
  clear hs1 hg1 ew2 S0 R0 G0 P0 EV
  go_wp2_with fail
  rw [← EW2.out]
  refine P2.out.mono ?_
  rintro e w3 ⟨y, rfl, hy, hs3, hg3'⟩
  obtain ⟨g3, eg3⟩ : ∃ g3, w1.heap.size = g3 := ⟨_, rfl⟩
  rw [eg3] at F2 hg3
  obtain ⟨H, eH⟩ : ∃ H : Nat, 1 + y = H := ⟨_, rfl⟩
  have hH1 : (1 : Int) + (y : Int) = (H : Int) := by omega
  have F3 := Lib.hid (F2.out.grown hg3' (fun e => by injection e with e; omega))
  have R3 := Lib.hid (R2.out.grown hg3' (fun e => by injection e with e; omega))
  have G3 := Lib.hid (grown_trans' G2.out hg3')
  have S3 := Lib.hid hs3
  have f1 : w3.frozen? ⟨g3, 1, none⟩ = false := F3.out.frozen 1
  have c1 : w3.cell? ⟨g3, 1, none⟩ = some (.int .i64 0) := F3.out.cell 1
  have gs := grown_set (World.grownBy.refl w3 (some g3)) (p := ⟨g3, 1, none⟩) rfl (.int .i64 (H : Int))
  obtain ⟨w4, ew4⟩ : ∃ w4, w4 = w3.setCell ⟨g3, 1, none⟩ (.int .i64 (H : Int)) := ⟨_, rfl⟩
  rw [← ew4] at gs
  have F4 : Hid (Blk w4 g3 26 #[.int .i64 (W : Int), .int .i64 (H : Int), .slice none 0 0]) := by rw [ew4]; exact F3.out.set_ 1 _
  have R4 := Lib.hid (R3.out.grown gs (fun e => by injection e with e; omega))
  have S4 := Lib.hid (S3.out.grown gs (by omega))
  have G4 := Lib.hid (grown_new G3.out gs (by omega))
  have P4 := Lib.hid (PC.out 4 (at_ + 1 + 1) w4 ⟨by omega, by omega⟩ (by omega) S4.out)
  have EW4 := Lib.hid ew4
  clear hs3 hg3' ew4 gs F2 R2 G2 S2 P2 EW2 F3 R3 G3 S3
  go_wp2_with fail
  rw [← EW4.out]
  refine P4.out.mono ?_
  rintro e w5 ⟨z, rfl, hz, hs5, hg5⟩
  have F5 := Lib.hid (F4.out.grown hg5 (fun e => by injection e with e; omega))
  have R5 := Lib.hid (R4.out.grown hg5 (fun e => by injection e with e; omega))
  have G5 := Lib.hid (grown_trans' G4.out hg5)
  have S5 := Lib.hid hs5
  have d0 : w5.cell? ⟨g3, 0, none⟩ = some (.int .i64 (W : Int)) := F5.out.cell 0
  have d1 : w5.cell? ⟨g3, 1, none⟩ = some (.int .i64 (H : Int)) := F5.out.cell 1
  obtain ⟨N, eN⟩ : ∃ N, W * H = N := ⟨_, rfl⟩
  have hN : (W : Int) * (H : Int) = (N : Int) := by rw [← eN]; simp
  have hN36 : N ≤ 36 := by have := Nat.mul_le_mul (show W ≤ 6 by omega) (show H ≤ 6 by omega); omega
  obtain ⟨sh, esh⟩ : ∃ sh : Nat, 1 + z = sh := ⟨_, rfl⟩
  have hsh1 : (1 : Int) + (z : Int) = (sh : Int) := by omega
  have EN := Lib.hid eN
  clear hs5 hg5 F4 R4 G4 S4 P4 EW4 f1 c1 eN eg3
  go_wp2
  go_loopw [5] (fun si wr => ∃ (k j : Nat) (cs : List Bool) (Ac : Option Addr) (cc a' : Nat), si = .int .i64 (k : Int) ∧ k + j = N ∧ cs.length = j ∧ Hid (Blk wr g3 26 #[.int .i64 (W : Int), .int .i64 (H : Int), .slice Ac j cc]) ∧
    Hid (Blk wr w.heap.size 26 #[.int .i64 0, .int .i64 0, .slice none 0 0]) ∧ Hid (wr.ownsRow w.heap.size 4 1 (.slice Ac j cc) j (cs.map bv)) ∧ Hid (Src wr g A n c a' bs) ∧ a' ≤ at_ + 3 + j ∧ Hid (w.grownBy wr (some g))) (fun si _ => (intOf si).toNat)
  case atStart => exact ⟨N, 0, [], none, 0, at_ + 1 + 1 + 1, rfl, rfl, rfl, F5.out, R5.out, World.ownsRow_nil _ _ _ _, S5.out, by omega, G5.out⟩
  case round =>
    clear F5 R5 G5 S5 d0 d1
    obtain ⟨k, j, cs, Ac, cc, a', rfl, hkj, hcl, F, R, O, S, ha', G⟩ := hrel
    by_cases hlt : 0 < k
    · have PX := Lib.hid (PC.out 5 a' wr.drew ⟨by omega, by omega⟩ (by omega) (S.out.below ((Below.refl _ _).drew)))
      have d2 : wr.cell? ⟨g3, 2, none⟩ = some (.slice Ac j cc) := F.out.cell 2
      have d2' : wr.drew.cell? ⟨g3, 2, none⟩ = some (.slice Ac j cc) := F.out.cell 2
      have hg3r := F.out.lt
      have hgr := R.out.lt
      have HCL := Lib.hid hcl
      clear hcl
      go_wp2
      go_region_law (first
        | (refine step_enter rfl 36 #[.pointer (some ⟨g, 0, none⟩), .int .i64 5] (by go_simp) _ PX.out ?_
           rintro e w7 ⟨x7, rfl, hx7, hs7, hg7⟩
           refine ⟨_, rfl, ?_⟩
           have F7 := Lib.hid (F.out.drew.grown hg7 (fun e => by injection e with e; omega))
           have R7 := Lib.hid (R.out.drew.grown hg7 (fun e => by injection e with e; omega))
           have O7 := Lib.hid (own_grown' (w := wr.drew) O.out hg7 (fun e => by have := (O.out.lt g e.symm).1; omega))
           have G7 := Lib.hid (grown_trans' (grown_drew G.out) hg7)
           have S7 := Lib.hid hs7
           have F8 := Lib.hid (F7.out.alloc (.cells #[.bool (decide (x7 < sh))] 4))
           have O8 := Lib.hid (O7.out.alloc (.cells #[.bool (decide (x7 < sh))] 4))
           have h7 : w7.cell? ⟨g3, 2, none⟩ = some (.slice Ac j cc) := F7.out.cell 2
           have h8 : (w7.alloc (.cells #[.bool (decide (x7 < sh))] 4)).cell? ⟨g3, 2, none⟩ = some (.slice Ac j cc) := F8.out.cell 2
           have C8 : Hid (∀ j u, ([.bool (decide (x7 < sh))] : List Value)[j]? = some u → (w7.alloc (.cells #[.bool (decide (x7 < sh))] 4)).cell? ((⟨w7.heap.size, 0, none⟩ : Addr).add j) = some u) := World.news_of_block (heap_alloc_new w7 (.cells #[.bool (decide (x7 < sh))] 4))
           have hne7 : ¬ g3 = w7.heap.size := by have := F7.out.lt; omega)
        | (refine step_append_lies _ rfl _ _ _ rfl w.heap.size 4 i0 (.bool false) 1 1 Try.underlying24 hi0 hz0 hz1 hz2 rfl (by omega) (.slice Ac j cc) j (cs.map bv) (by rfl) O8.out ⟨w7.heap.size, 0, none⟩ 1 1 [.bool (decide (x7 < sh))] (by rfl) (by simp) C8.out (by simp [Value.oneCell']) (by omega) (by unfold maxLen; omega) (by omega) (by have := G7.out.size; simp; omega) (w7.heap.size + 1) (by simp) ?_
           intro gg cap w9 ho9 hg9 hd9 hlt9
           have F9 := Lib.hid (F8.out.grown hg9 (own_blk_ne O8.out F8.out (by decide)))
           have e9 := F9.out.cell 2
           have f9 := F9.out.frozen 2))
      all_goals
        have gs10 := Lib.hid (grown_set (World.grownBy.refl w9 (some g3)) (p := ⟨g3, 2, none⟩) rfl (.slice (some ⟨gg, 0, none⟩) (j + 1) cap))
        have F10 : Hid (Blk (w9.setCell ⟨g3, 2, none⟩ (.slice (some ⟨gg, 0, none⟩) (j + 1) cap)) g3 26 #[.int .i64 (W : Int), .int .i64 (H : Int), .slice (some ⟨gg, 0, none⟩) (j + 1) cap]) := F9.out.set_ 2 _
        have R9 := Lib.hid ((R7.out.alloc (.cells #[.bool (decide (x7 < sh))] 4)).grown hg9 (own_blk_ne O8.out (R7.out.alloc _) (by decide)))
        have R10 := Lib.hid (R9.out.grown gs10.out (fun e => by injection e with e; omega))
        have O10 := Lib.hid (own_grown' ho9 gs10.out (own_blk_ne ho9 F9.out (by decide)))
        have S9 := Lib.hid ((S7.out.alloc (.cells #[.bool (decide (x7 < sh))] 4)).grown' hg9 (fun k e => by have := (O8.out.lt k e).1; omega))
        have S10 := Lib.hid (S9.out.grown gs10.out (by omega))
        have G9 := Lib.hid (grown_new' (grown_alloc' G7.out (.cells #[.bool (decide (x7 < sh))] 4)) hg9 (fun k e => (O8.out.lt k e).1))
        have G10 := Lib.hid (grown_new G9.out gs10.out (by omega))
        have hmap : cs.map bv ++ [.bool (decide (x7 < sh))] = (cs ++ [decide (x7 < sh)]).map bv := by simp [bv]
        rw [hmap] at O10
        have hcl2 : (cs ++ [decide (x7 < sh)]).length = j + 1 := by rw [List.length_append, HCL.out]; rfl
        have HCL2 := Lib.hid hcl2
        clear ho9 hg9 hd9 e9 f9 F9 R9 S9 G9 gs10 hmap hcl2
        generalize w9.setCell ⟨g3, 2, none⟩ (.slice (some ⟨gg, 0, none⟩) (j + 1) cap) = w10 at *
        go_wp2
        go_roundw
        case rel => exact ⟨k - 1, j + 1, cs ++ [decide (x7 < sh)], some ⟨gg, 0, none⟩, cap, a' + 1, by go_num, by omega, HCL2.out, F10, R10, O10, S10, by omega, G10⟩
        case measure => simp [intOf]; omega
    · obtain rfl : k = 0 := by omega
      have hjN : j = N := by omega
      go_wp2_with (first
        | (refine wpList_load_blk rfl _ _ rfl g3 0 rfl 26 _ F.out [.int .i64 (W : Int), .int .i64 (H : Int), .slice Ac j cc] rfl _ Try.underlying26 rfl (by kernel_rfl) ?_)
        | (refine wpList_store_blk rfl _ _ _ rfl w.heap.size 0 rfl _ rfl [.int .i64 (W : Int), .int .i64 (H : Int), .slice Ac j cc] rfl 26 _ #[.int .i64 (W : Int), .int .i64 (H : Int), .slice Ac j cc] R.out (by kernel_rfl) (by simp) (by simp [Value.oneCell']) rfl ?_; intro w9 k9 g9)
        | fail)
      refine bodyPost_ret (results_cell_row rfl _ w9 w.heap.size 26 _ (0, 0) _ rfl k9 Try.underlying26 rfl (by kernel_rfl)) rfl ?_
      refine ⟨W, H, cs, Ac, cc, a', ?_, by omega, by omega, by omega, by omega, by rw [EN.out, hcl, hjN], ?_, S.out.grown g9 hgw, by omega, grown_new G.out g9 (Nat.le_refl _)⟩
      · rw [hcl]
        rfl
      · rw [hcl]
        exact own_grown' O.out g9 (own_blk_ne O.out R.out (by decide))
set_option maxRecDepth 100000 in
set_option maxHeartbeats 1000000 in
theorem B10Field_any (n c : Nat) (A : Option Addr) (bs : List Nat) (w : World) (hn : n ≤ 1048576) (hc : n ≤ c) (hb : ∀ x ∈ bs, x < 256) (hA : Rd w w.heap.size 1 A n (bs.map u8v)) :
    Calls Try.prog 5 #[.slice A n c] w fun e w' => ∃ (W H : Nat) (cs : List Bool) (Ao : Option Addr) (co : Nat), e = .returned (fieldV (W : Int) (H : Int) Ao cs.length co) ∧ 1 ≤ W ∧ W ≤ 6 ∧ 1 ≤ H ∧ H ≤ 6 ∧ cs.length = W * H ∧
      w'.ownsRow w.heap.size 4 1 (.slice Ao cs.length co) cs.length (cs.map bv) ∧ Below w.heap.size w w' := by
  obtain ⟨v, ev⟩ : ∃ v, v = w.alloc (.cells #[.int .i64 0, .int .i64 0, .slice none 0 0] 26) := ⟨_, rfl⟩
  have R0 : Hid (Blk v w.heap.size 26 #[.int .i64 0, .int .i64 0, .slice none 0 0]) := by rw [ev]; exact Blk.new _ _ _
  have V0 : Hid (Below w.heap.size w v) := by rw [ev]; exact (Below.refl _ _).alloc (Nat.le_refl _) _
  have hvz : v.heap.size = w.heap.size + 1 := by rw [ev]; simp
  obtain ⟨u, eu⟩ : ∃ u, u = v.alloc (.cells #[.slice A n c, .int .i64 0, .int .u64 0] 69) := ⟨_, rfl⟩
  have S0 : Hid (Src u v.heap.size A n c 0 bs) := by
    rw [eu]
    exact ⟨⟨0, by omega, by omega, Blk.new _ _ _⟩, ((hA.below V0.out).below ((Below.refl _ _).alloc (by omega) _)).more (by omega), hb, hn, hc⟩
  have FC : Hid (Calls Try.prog 15 #[.slice A n c] v fun e w' => e = .returned (.pointer (some ⟨v.heap.size, 0, none⟩)) ∧ w' = u) := by rw [eu]; exact l00From_any A n c v
  have DC := Lib.hid (l07DrawOk_any v.heap.size n c 0 A bs u (by omega) S0.out)
  rw [hvz] at DC FC
  have EV := Lib.hid ev
  have R1 : Hid (Blk u w.heap.size 26 #[.int .i64 0, .int .i64 0, .slice none 0 0]) := by rw [eu]; exact R0.out.alloc _
  have V1 : Hid (Below w.heap.size w u) := by rw [eu]; exact V0.out.alloc (by omega) _
  clear ev eu hA S0 R0 V0
  go_enter Try.func5, Try.ntmps5
  go_wp2_with fail
  rw [← EV.out]
  refine FC.out.mono ?_
  rintro e u' ⟨rfl, hu⟩
  obtain rfl := hu.symm
  go_wp2_with fail
  refine DC.out.mono ?_
  intro e w3 hh
  obtain ⟨W, H, cs, Ao, co, a', he, h1, h2, h3, h4, hl, ho, hs5, ha5, hg⟩ := hh
  have HLL := Lib.hid hl
  clear hs5 ha5 hb hl
  subst he
  have hsz := V1.out.size
  have R3 := Lib.hid (R1.out.grown hg (fun e => by injection e with e; omega))
  have V3 := Lib.hid (V1.out.grown hg hsz (fun k e => by injection e with e; omega))
  have O3 := Lib.hid ho
  clear ho hg DC FC
  unfold fieldV
  go_wp2_with (first
    | (refine wpList_store_blk rfl _ _ _ rfl w.heap.size 0 rfl _ rfl [.int .i64 (W : Int), .int .i64 (H : Int), .slice Ao cs.length co] rfl 26 _ #[.int .i64 (W : Int), .int .i64 (H : Int), .slice Ao cs.length co] R3.out (by kernel_rfl) (by simp) (by simp [Value.oneCell']) rfl ?_; intro w9 k9 g9)
    | fail)
  refine bodyPost_ret (results_cell_row rfl _ w9 w.heap.size 26 _ (0, 0) _ rfl k9 Try.underlying26 rfl (by kernel_rfl)) rfl ?_
  exact ⟨W, H, cs, Ao, co, rfl, h1, h2, h3, h4, HLL.out, own_base (own_grown' O3.out g9 (own_blk_ne O3.out R3.out (by decide))) hsz, V3.out.grown g9 V3.out.size (fun j e => by injection e with e; omega)⟩
end Go.Proofs.Ytejmpijihmmajaa

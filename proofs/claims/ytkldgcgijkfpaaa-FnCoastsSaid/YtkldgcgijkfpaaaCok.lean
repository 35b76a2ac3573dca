/- Walk: SimpleCoast. Conditions: numbers of at most 32 in their parts, at most 17 points. -/
import Derived.Test.YtkldgcgijkfpaaaCoj
namespace Go.Proofs.Ytkldgcgijkfpaaa
open Go.RowKit
open Num Quick
attribute [local go_sem] run_store_fl run_store_cx

set_option maxRecDepth 100000 in
set_option maxHeartbeats 8000000 in
theorem SimpleCoast_ok (near : Nat) (hnear : Fl .f32 near) (h0 : (FloatKind.f32.format.order near 0 == some .gt || FloatKind.f32.format.order near 0 == some .eq) = true) (n : Nat) (f : Nat → Nat × Nat) (b off c : Nat) (w : World) (hn2 : 2 ≤ n) (hn : n ≤ 17) (hnc : n ≤ c) (hf : ∀ i, i < n → Cb ((32 : Nat) : Rat) (f i)) (hA : Rd w w.heap.size 1 (some ⟨b, off, none⟩) n ((List.range n).map (fun i => cxv (f i)))) :
    Calls Try.prog 23 #[.slice (some ⟨b, off, none⟩) n c, .float .f32 near] w fun e w' => ∃ (J : List Nat) (g q c' : Nat), e = .returned (.tuple #[.slice (some ⟨g, 0, none⟩) q c', .bool true]) ∧ q = J.length + 2 ∧ Rd w' w'.heap.size 1 (some ⟨g, 0, none⟩) q (([0] ++ J ++ [n - 1]).map (fun j => cxv (f j))) ∧ Keep n J ∧ (1000 ≤ Num.fv .f32 near → J = []) ∧ Below w.heap.size w w' := by
  have AP := Lib.hid (arePoints_w f (some ⟨b, off, none⟩) n c w (by omega) hf hA)
  have IF := Lib.hid (fun w => isFinite_num hnear w)
  have SI := Lib.hid (simple_ok near hnear n f b off c w hn2 hn hnc hf hA)
  have HA := Lib.hid hA
  obtain ⟨last, hlast⟩ : ∃ l, n - 1 = l := ⟨_, rfl⟩
  have hl1 : (n : Int) - 1 = (last : Int) := by omega
  have hn2I : ¬ (n : Int) < 2 := by omega
  have hlc : ¬ c = last := by omega
  have hln : (last : Int) ≤ (n : Int) := by omega
  have hl0 : (0 : Int) ≤ (last : Int) := by omega
  have h1c : (1 : Int) ≤ (c : Int) := by omega
  have wl : IntKind.i64.wrap (last : Int) = (last : Int) := IntWalk.i64_in _ (by omega)
  have HL := Lib.hid hlast
  clear hnear hf hA
  rw [hlast]
  clear hlast
  go_enter Try.func23, Try.ntmps23
  go_wp2_with fail
  refine AP.out.mono ?_
  rintro e w1 ⟨rfl, hw1⟩
  obtain rfl := hw1.symm
  go_wp2_with fail
  refine (IF.out _).mono ?_
  rintro e w1 ⟨rfl, hw1⟩
  obtain rfl := hw1.symm
  clear AP IF
  go_wp2_with fail
  refine SI.out.mono ?_
  rintro e w6 ⟨J, A1, m1, c1, rfl, hm1, hR, hK, h1000, hb⟩
  have V6 := Lib.hid hb
  have R6 := Lib.hid hR
  have K6 := Lib.hid (show _ ∧ _ ∧ _ from ⟨hm1, hK, h1000⟩)
  have hm17 : m1 ≤ 17 := by
    have := hK.len
    omega
  clear hm1 hR hK h1000 hb SI
  obtain ⟨v, ev⟩ : ∃ v, v = (w6.alloc (.cells #[.slice (some ⟨b, off, none⟩) 1 c, .slice A1 m1 c1, .slice (some ⟨b, off + last, none⟩) (n - last) (c - last)] 27)).drew := ⟨_, rfl⟩
  have VV : Hid (Below w6.heap.size w6 v) := by rw [ev]; exact Lib.hid ((Below.refl _ _).alloc (Nat.le_refl _) _).drew
  have BS : Hid (Blk v w6.heap.size 27 #[.slice (some ⟨b, off, none⟩) 1 c, .slice A1 m1 c1, .slice (some ⟨b, off + last, none⟩) (n - last) (c - last)]) := by rw [ev]; exact Lib.hid (Blk.new w6 _ _).drew
  have EV := Lib.hid ev
  have RP : Hid (Rd v v.heap.size 1 (some ⟨b, off, none⟩) n ((List.range n).map (fun i => cxv (f i)))) := Lib.hid (((HA.out.below V6.out).more V6.out.size).below VV.out |>.more VV.out.size)
  have hnl : n - last = 1 := by have := HL.out; omega
  have CC := Lib.hid (Concat_ok (pick3 (some ⟨b, off, none⟩) A1 (some ⟨b, off + last, none⟩)) (pick3 1 m1 (n - last)) (pick3 c c1 (c - last)) (pick3 [cxv (f 0)] (J.map (fun j => cxv (f j))) [cxv (f last)]) w6.heap.size v (by show 1 ≤ 0 + 1 + m1 + (n - last); omega) (by show 0 + 1 + m1 + (n - last) ≤ 1000; omega) (fun k hk => by
      rcases (by omega : k = 0 ∨ k = 1 ∨ k = 2) with rfl | rfl | rfl
      · exact BS.out.cell 0
      · exact BS.out.cell 1
      · exact BS.out.cell 2) BS.out.lt (fun k hk => by
      rcases (by omega : k = 0 ∨ k = 1 ∨ k = 2) with rfl | rfl | rfl
      · have := rd_sub RP.out 0 1 (by omega) (by omega)
        show Rd v v.heap.size 1 (some ⟨b, off, none⟩) 1 [cxv (f 0)]
        simpa using this
      · exact (R6.out.below VV.out).more VV.out.size
      · have := rd_sub RP.out last 1 (by omega) (by have := HL.out; omega)
        show Rd v v.heap.size 1 (some ⟨b, off + last, none⟩) (n - last) [cxv (f last)]
        rw [hnl]
        simpa using this) (fun k hk u hu => by
      rcases (by omega : k = 0 ∨ k = 1 ∨ k = 2) with rfl | rfl | rfl
      · rw [List.mem_singleton.1 hu]; rfl
      · obtain ⟨j, _, rfl⟩ := List.mem_map.1 hu; rfl
      · rw [List.mem_singleton.1 hu]; rfl))
  rw [ev] at CC
  clear ev hnl
  go_wp2
  go_region_held3 (fun w' => Below w6.heap.size w6 w')
    (first
      | exact (Below.refl _ _).drew
      | exact H8.out
      | exact ((Below.refl _ _).alloc (Nat.le_refl _) _).drew
      | exact (Below.refl _ _).alloc (Nat.le_refl _) _
      | go_keep)
    (first
      | (go_at_call 57; with_reducible refine Calls.mono CC.out ?_; rintro e w8 ⟨g8, c8, rfl, ho8, hb8⟩
         rw [← EV.out] at hb8
         have H8 : Hid (Below w6.heap.size w6 w8) := Lib.hid (VV.out.trans (hb8.mono VV.out.size))))
  all_goals
    have R8 := Lib.hid (Rd.own ho8)
    have V8 := Lib.hid (V6.out.trans (H8.out.mono V6.out.size))
    clear ho8 hb8 CC BS VV RP EV R6
    go_wp2
    go_ret2
    obtain ⟨k1, k2, k3⟩ := K6.out
    have hnl : n - last = 1 := by have := HL.out; omega
    refine ⟨J, g8, _, c8, rfl, ?_, ?_, k2, k3, V8.out⟩
    · show 0 + 1 + m1 + (n - last) = _
      omega
    · have h := R8.out
      have e : ycat (pick3 [cxv (f 0)] (J.map (fun j => cxv (f j))) [cxv (f last)]) 3 = ([0] ++ J ++ [last]).map (fun j => cxv (f j)) := by
        show ([] ++ [cxv (f 0)]) ++ J.map _ ++ [cxv (f last)] = _
        rw [List.map_append, List.map_append]
        rfl
      rw [e] at h
      exact h
end Go.Proofs.Ytkldgcgijkfpaaa

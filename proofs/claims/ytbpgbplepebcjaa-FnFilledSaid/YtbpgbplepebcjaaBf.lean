/- Walk: FilledBoxes. Conditions: sides of 1 to 8, 64 turns, as the reference draws the maps. -/
import Derived.Test.YtbpgbplepebcjaaBe
import Derived.Test.YtbpgbplepebcjaaRep
namespace Go.Proofs.Ytbpgbplepebcjaa
open Go.RowKit
open Num Quick

set_option maxRecDepth 100000 in
set_option maxHeartbeats 4000000 in
theorem FilledBoxes_w (L : List Sm) (N side n : Nat) (A : Option Addr) (c : Nat) (w : World) (hL : L.length = N) (hN : N = 1 ∨ N = 2 ∨ N = 4) (hok : ∀ x ∈ L, x.ok N) (h1 : 1 ≤ side) (h8 : side ≤ 8) (hn : side * side = n)
    (hR : Rd w w.heap.size 4 A N (smCells L)) :
    Calls Try.prog 19 #[.slice A N c, .int .i64 (side : Int), .int .i64 64] w fun e w' => ∃ g T : Nat, w.heap.size ≤ g ∧ 1 ≤ T ∧ T ≤ 64 ∧ (T < 64 → setAt L side (T + 1) = setAt L side T) ∧ e = .returned (.tuple #[.slice (some ⟨g, 0, none⟩) n n, .int .i64 (T : Int), .bool true]) ∧
      w'.ownsRow w.heap.size 4 1 (.slice (some ⟨g, 0, none⟩) n n) n ((setAt L side T).map bv) ∧ Below w.heap.size w w' := by
  have AS := Lib.hid (areSmalls_ok L N A c w hL hN hok hR)
  have IS := Lib.hid (isSide_ok side h1 (by omega))
  have AT := Lib.hid (areTurns_ok 64 (by omega))
  have BS := Lib.hid (fun w1 (hb : Below w.heap.size w w1) M AM cM (hlM : M.length = n) (hM : Rd w1 w1.heap.size 1 AM n (M.map bv)) => boxStep_w L N side n M A AM c cM w1 hL (by omega) (by omega) hok h1 h8 hn hlM ((hR.below hb).more hb.size) hM)
  have hnn : (side : Int) * (side : Int) = (n : Int) := by rw [← hn]; simp
  have hn64 : n ≤ 64 := by rw [← hn]; exact Nat.mul_le_mul h8 h8
  have hn1 : 1 ≤ n := by rw [← hn]; exact Nat.mul_le_mul h1 h1
  have SL := Lib.hid (setAt_length L side)
  have HS := Lib.hid hn
  clear hL hN hok hn hR
  go_enter Try.func19, Try.ntmps19
  go_wp2_with fail
  refine AS.out.mono ?_
  rintro e w1 ⟨rfl, hb1⟩
  have B1 := Lib.hid hb1
  clear hb1
  go_wp2_with fail
  refine (IS.out _).mono ?_
  rintro e w2 ⟨rfl, hw⟩
  obtain rfl := hw.symm
  clear hw
  go_wp2_with fail
  refine (AT.out _).mono ?_
  rintro e w2 ⟨rfl, hw⟩
  obtain rfl := hw.symm
  clear hw
  have RC := Lib.hid (repeatBool_one w1.heap.size 0 1 n (.bool true) (w1.alloc (.cells #[.bool true] 4)) (by omega) (by rw [World.cell?_alloc_at _ _ _ _ rfl]; rfl) rfl)
  have BA := Lib.hid (B1.out.alloc B1.out.size (.cells #[.bool true] 4))
  go_wp2_with fail
  refine RC.out.mono ?_
  rintro e w3 ⟨A3, rfl, ho3, hb3⟩
  obtain ⟨g3, cap, hv, hg3, _⟩ := ho3.form (by omega)
  obtain rfl : A3 = some ⟨g3, 0, none⟩ := by injection hv
  have B3 := Lib.hid (BA.out.trans (hb3.mono BA.out.size))
  have O3 : Hid (w3.ownsRow w.heap.size 4 1 (.slice (some ⟨g3, 0, none⟩) n n) n ((setAt L side 0).map bv)) := by
    have := own_base ho3 BA.out.size
    unfold setAt
    rw [List.map_replicate, HS.out]
    exact Lib.hid this
  clear ho3 hb3 hv hg3 RC
  go_wp2
  go_loopw [9, 31] (fun s9 s31 wr => ∃ k g : Nat, k ≤ 64 ∧ s9 = .slice (some ⟨g, 0, none⟩) n n ∧ s31 = .int .i64 (k : Int) ∧ Hid (wr.ownsRow w.heap.size 4 1 (.slice (some ⟨g, 0, none⟩) n n) n ((setAt L side k).map bv)) ∧ Hid (Below w.heap.size w wr)) (fun _ s31 _ => 64 - (intOf s31).toNat)
  case atStart => exact ⟨0, g3, by omega, rfl, rfl, O3, B3⟩
  case round =>
    obtain ⟨k, g, hk, rfl, rfl, HO, HB⟩ := hrel
    by_cases hlt : k < 64
    · have hkI : (k : Int) < 64 := by omega
      have C1 := Lib.hid (BS.out wr HB.out (setAt L side k) (some ⟨g, 0, none⟩) n (by rw [SL.out, HS.out]) (Rd.own HO.out))
      clear O3 B3 BA
      go_wp2_with fail
      refine C1.out.mono ?_
      rintro e w4 ⟨rfl, ho4, hb4⟩
      have HM4 := Lib.hid (own_below HO.out hb4)
      have B4 := Lib.hid (HB.out.trans (hb4.mono HB.out.size))
      have O4 := Lib.hid (own_base ho4 HB.out.size)
      have S4 := Lib.hid HB.out.size
      clear ho4 hb4
      generalize wr.heap.size = g4 at O4 S4 ⊢
      have C2 := Lib.hid (equalB_any (some ⟨g4, 0, none⟩) (some ⟨g, 0, none⟩) n n n (imgOf L side (setAt L side k)) (setAt L side k) w4 (by omega) (by have := (imgOf_img L side (setAt L side k)).1; rw [this, HS.out]) (by rw [SL.out, HS.out]) (Rd.own O4.out) (Rd.own HM4.out))
      clear C1 HO HB
      by_cases he : imgOf L side (setAt L side k) = setAt L side k
      · have HE := Lib.hid he
        rw [decide_eq_true he] at C2
        clear he
        go_wp2_with fail
        refine C2.out.mono ?_
        rintro e w5 ⟨rfl, hb5⟩
        have O5 := Lib.hid (own_below O4.out hb5)
        have B5 := Lib.hid (B4.out.trans (hb5.mono B4.out.size))
        clear hb5
        go_wp2
        go_ret3
        refine ⟨g4, k + 1, S4.out, by omega, by omega, fun _ => ?_, rfl, O5.out, B5.out⟩
        show imgOf L side (imgOf L side (setAt L side k)) = imgOf L side (setAt L side k)
        rw [HE.out, HE.out]
      · rw [decide_eq_false he] at C2
        clear he
        go_wp2_with fail
        refine C2.out.mono ?_
        rintro e w5 ⟨rfl, hb5⟩
        have O5 := Lib.hid (own_below O4.out hb5)
        have B5 := Lib.hid (B4.out.trans (hb5.mono B4.out.size))
        clear hb5
        go_wp2
        go_roundw
        case rel => exact ⟨k + 1, g4, by omega, rfl, by go_num, O5, B5⟩
        case measure => simp [intOf]; omega
    · obtain rfl : k = 64 := by omega
      clear O3 B3 BA
      have G := Lib.hid ((HO.out.form (by omega)))
      go_wp2
      go_ret3
      obtain ⟨g', cap, hv, hb', _⟩ := G.out
      obtain rfl : g = g' := by injection hv with h1; injection h1 with h2; injection h2
      exact ⟨g, 64, hb', by omega, by omega, fun h => absurd h (by omega), rfl, HO.out, HB.out⟩
end Go.Proofs.Ytbpgbplepebcjaa

/- Walk: the law on StoreShapes. Conditions: lists and texts are shorter than 2^63. -/
import Derived.Test.YtlklpfjcnbkhlaaLq
namespace Go.Proofs.Ytlklpfjcnbkhlaa
open Go.RowKit

set_option maxRecDepth 100000 in
set_option maxHeartbeats 4000000 in
theorem lawSt_any (l : List Shp) (A : Option Addr) (n c : Nat) (w : World) (hn : n ≤ maxLen) (hf : ShF l) (hA : ShR w w.heap.size A n l) :
    Calls Try.prog 3 #[.slice A n c] w fun e w' => e = .returned (.bool true) ∧ Below w.heap.size w w' := by
  have HA := Lib.hid hA
  have HF := Lib.hid hf
  clear hA hf
  go_enter Try.func3, Try.ntmps3
  go_wp2_with fail
  refine (szShapeS_any l A n c 1048576 w hn HF.out (by omega) (by omega) HA.out).mono ?_
  rintro e w1 ⟨r, rfl, hr0, hr1, hr2, hb⟩
  have B1 := Lib.hid hb
  have R2 := Lib.hid hr2
  clear hb hr2
  by_cases hr : r < 0
  · go_wp2
    go_ret
    exact ⟨rfl, B1.out⟩
  have hn20 : n ≤ 1048576 := by have := (R2.out (by omega)).1; omega
  have HC : Hid (∀ s ∈ l, s.cs.length ≤ 1048576) := fun s hs => by have := (R2.out (by omega)).2 s hs; omega
  have TC := Lib.hid (fun w' (h : Below w.heap.size w w') => toShapeS_any l A n c w' hn20 HC.out ((HA.out.below h).more h.size))
  clear R2
  go_wp2_with fail
  refine (TC.out w1 B1.out).mono ?_
  rintro e w2 ⟨A2, m2, rfl, hs2, hR2, hb⟩
  have B2 := Lib.hid (B1.out.trans (hb.mono B1.out.size))
  have RR2 := Lib.hid hR2
  have SS2 := Lib.hid hs2
  have F2 : Hid (ShF m2) := HF.out.same hs2.symm
  clear hb hR2 hs2
  go_wp2_with fail
  refine (specStoreShapes_any A2 n n m2 w2 hn F2.out RR2.out).mono ?_
  rintro e w3 ⟨he, hb⟩
  rw [stT_same SS2.out] at he
  have B3 := Lib.hid (B2.out.trans (hb.mono B2.out.size))
  obtain ⟨x, ok, hx⟩ : ∃ (x : ByteArray) (ok : Bool), stT l = .returned (.tuple #[.string x, .bool ok]) := by
    unfold stT
    cases stOk l
    · exact ⟨_, _, rfl⟩
    · exact ⟨_, _, rfl⟩
  have HX := Lib.hid hx
  rw [hx] at he
  subst he
  have hx1 : (!x.toList == x.toList) = false := by simp
  clear hb hx RR2 F2 SS2
  go_wp2_with fail
  refine (TC.out w3 B3.out).mono ?_
  rintro e w4 ⟨A4, m4, rfl, hs4, hR4, hb⟩
  have B4 := Lib.hid (B3.out.trans (hb.mono B3.out.size))
  have RR4 := Lib.hid hR4
  have SS4 := Lib.hid hs4
  have F4 : Hid (ShF m4) := HF.out.same hs4.symm
  clear hb hR4 hs4
  go_wp2_with fail
  refine (implStoreShapes_any A4 n n m4 w4 hn F4.out RR4.out).mono ?_
  rintro e w5 ⟨he, hb⟩
  rw [stT_same SS4.out, HX.out] at he
  subst he
  have B5 := Lib.hid (B4.out.trans (hb.mono B4.out.size))
  have RR5 := Lib.hid ((RR4.out.below hb).more hb.size)
  clear hb RR4
  cases ok
  all_goals
    go_wp2_with fail
    refine (TC.out w5 B5.out).mono ?_
    rintro e w6 ⟨A6, m6, rfl, hs6, hR6, hb⟩
    have B6 := Lib.hid (B5.out.trans (hb.mono B5.out.size))
    have RR6 := Lib.hid ((RR5.out.below hb).more hb.size)
    have RQ6 := Lib.hid hR6
    have SM := Lib.hid (SS4.out.trans hs6.symm)
    clear hb hR6 hs6
    go_wp2_with fail
    refine (eqShapeS_same A4 A6 n n n m4 m6 w6 hn F4.out SM.out RR6.out RQ6.out).mono ?_
    rintro e w7 ⟨rfl, hb⟩
    have B7 := Lib.hid (B6.out.trans (hb.mono B6.out.size))
    clear hb
    go_wp2
    go_ret
    exact ⟨rfl, B7.out⟩
end Go.Proofs.Ytlklpfjcnbkhlaa

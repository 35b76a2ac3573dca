/- Walk: the law on ReadGrammar. Conditions: the text is shorter than 2^63; the library's own size variable holds a number. -/
import Derived.Test.YthgdikdcbkhgjaaDoorDj
import Derived.Test.YthgdikdcbkhgjaaDoorMk
namespace Go.Proofs.YthgdikdcbkhgjaaDoor
open Go.RowKit

theorem heldGrammar_any (s : ByteArray) (A : Option Addr) (n c k : Nat) (w : World) (hk0 : 0 < k) (hk : k + 2 * n < 2147483648)
    (hA : Rd w w.heap.size 2 A n ((List.range (2 * n)).map (mtv k))) :
    Calls Tryd.prog 11 #[.agg #[.string s, .slice A n c], .int .i64 k] w fun e w' => e = .returned (.int .i64 ((k + 2 * n : Nat) : Int)) ∧ Below w.heap.size w w' := by
  have hb0 : ∀ o, Below w.heap.size w (w.alloc o) := fun o => (Below.refl _ _).alloc (Nat.le_refl _) _
  have H0 := Lib.hid hb0
  clear hb0
  go_enter Tryd.func11, Tryd.ntmps11
  go_wp2_with fail
  refine (heldRuleS_any A n c k _ hk0 hk ((hA.below (H0.out _)).more (by simp))).mono ?_
  rintro e w1 ⟨rfl, hb1⟩
  go_wp2
  go_ret
  exact ⟨rfl, (H0.out _).trans (hb1.mono (by simp))⟩

theorem markGrammar_any (s : ByteArray) (A : Option Addr) (n c k base : Nat) (xs : List Value) (w : World) (hk0 : 0 < k) (hk : k + 2 * n < 2147483648)
    (hown : w.ownsRow base 45 2 (.slice A n c) n xs) :
    Calls Tryd.prog 10 #[.agg #[.string s, .slice A n c], .int .i64 k] w fun e w' => e = .returned (.int .i64 ((k + 2 * n : Nat) : Int)) ∧
      w'.ownsRow base 45 2 (.slice A n c) n ((List.range (2 * n)).map (mtv k)) ∧ w.grownBy w' (Value.slice A n c).ownBlock := by
  have hg0 : ∀ o, w.grownBy (w.alloc o) (Value.slice A n c).ownBlock := fun o => World.grownBy_alloc w o _
  have H0 := Lib.hid hg0
  clear hg0
  go_enter Tryd.func10, Tryd.ntmps10
  go_wp2_with fail
  refine (markRuleS_any A n c k base xs _ hk0 hk (hown.alloc _)).mono ?_
  rintro e w1 ⟨rfl, ho1, hg1⟩
  go_wp2
  go_ret
  exact ⟨rfl, ho1, grown_trans' (H0.out _) hg1⟩

/-- What reading gives, told by its parts. -/
def RgS (s : ByteArray) (rs : List (ByteArray × ByteArray)) (ok : Bool) (w : World) (e : Ending) (w' : World) : Prop :=
  ∃ A c, e = .returned (.tuple #[.agg #[.string s, .slice A rs.length c], .bool ok]) ∧ w'.ownsRow w.heap.size 45 2 (.slice A rs.length c) rs.length (rcells rs) ∧ Below w.heap.size w w'
theorem rgS_none {w w' : World} (hb : Below w.heap.size w w') : RgS ⟨#[]⟩ [] false w (.returned (.tuple #[.agg #[.string ⟨#[]⟩, .slice none 0 0], .bool false])) w' :=
  ⟨none, 0, rfl, ⟨rfl, .inl ⟨rfl, rfl⟩⟩, hb⟩
theorem rg_both {t : ByteArray} : ∃ s rs ok, rs.length ≤ 8 ∧ (∀ w e w', RgOut t w e w' → RgS s rs ok w e w') ∧ (∀ w e w', RiOut t w e w' → RgS s rs ok w e w') := by
  by_cases h : ∃ a rs, ImplOk t a rs
  · obtain ⟨a0, rs0, h0⟩ := h
    refine ⟨a0, rs0, true, ?_, ?_, ?_⟩
    · obtain ⟨_, _, _, hv, _⟩ := h0
      exact (valid_parts hv).2.1
    · rintro w e w' ⟨hb, ⟨a, rs, A, c, hok, rfl, ho⟩ | ⟨hno, rfl⟩⟩
      · obtain ⟨rfl, rfl⟩ := implOk_uniq h0 (spec_impl hok)
        exact ⟨A, c, rfl, ho, hb⟩
      · exact absurd (impl_spec h0) (hno _ _)
    · rintro w e w' ⟨hb, ⟨a, rs, A, c, hok, rfl, ho⟩ | ⟨hno, rfl⟩⟩
      · obtain ⟨rfl, rfl⟩ := implOk_uniq h0 hok
        exact ⟨A, c, rfl, ho, hb⟩
      · exact absurd h0 (hno _ _)
  · refine ⟨⟨#[]⟩, [], false, by simp, ?_, ?_⟩
    · rintro w e w' ⟨hb, ⟨a, rs, A, c, hok, rfl, ho⟩ | ⟨hno, rfl⟩⟩
      · exact absurd ⟨a, rs, spec_impl hok⟩ h
      · exact rgS_none hb
    · rintro w e w' ⟨hb, ⟨a, rs, A, c, hok, rfl, ho⟩ | ⟨hno, rfl⟩⟩
      · exact absurd ⟨a, rs, hok⟩ h
      · exact rgS_none hb
set_option maxRecDepth 100000 in
set_option maxHeartbeats 4000000 in
theorem lawRg_any (t : ByteArray) (w : World) (hs : t.size ≤ maxLen) (m0 : Int) (hm : w.cell? ⟨0, 0, none⟩ = some (.int .i64 m0)) :
    Calls Tryd.prog 3 #[.string t] w fun e w' => e = .returned (.bool true) ∧ Below w.heap.size w w' := by
  unfold maxLen at hs
  by_cases hbig : 1048576 < t.size
  · clear hm
    go_enter Tryd.func3, Tryd.ntmps3
    go_wp2
    go_ret
    exact ⟨rfl, Below.refl _ _⟩
  have hs20 : t.size ≤ 1048576 := by omega
  have hlt0 := World.block_lt_of_cell? w _ hm
  obtain ⟨s, rs, ok, hn8, h1, h2⟩ := rg_both (t := t)
  have SC := Lib.hid ((specRg_any t w hs20).mono (h1 w))
  have IC := Lib.hid (fun w1 (hb : Below w.heap.size w w1) => (implRg_any t w1 hs20 m0 ((hb.cell hlt0).trans hm)).mono (h2 w1))
  unfold RgS at SC IC
  obtain ⟨n, en⟩ : ∃ n, rs.length = n := ⟨_, rfl⟩
  rw [en] at SC IC hn8
  have hM : n ≤ maxLen := by unfold maxLen; omega
  have hkk : (!(ok == ok)) = false := by simp
  clear hm hlt0 h1 h2 en
  go_enter Tryd.func3, Tryd.ntmps3
  go_wp2_with fail
  refine SC.out.mono ?_
  rintro e u1 ⟨A1, c1, rfl, ho, hb⟩
  obtain ⟨w1, ew1⟩ : ∃ w1, w1 = u1.alloc (.cells #[.string s, .slice A1 n c1] 24) := ⟨_, rfl⟩
  have O1 : Hid (w1.ownsRow w.heap.size 45 2 (.slice A1 n c1) n (rcells rs)) := by rw [ew1]; exact ho.alloc _
  have K1 : Hid (Blk w1 u1.heap.size 24 #[.string s, .slice A1 n c1]) := by rw [ew1]; exact Blk.new _ _ _
  have V1 : Hid (Below w.heap.size w w1) := by rw [ew1]; exact hb.alloc hb.size _
  have E1 := Lib.hid ew1
  clear ho hb ew1
  go_wp2_with fail
  rw [← E1.out]
  refine (IC.out w1 V1.out).mono ?_
  rintro e u2 ⟨A2, c2, rfl, ho, hb⟩
  obtain ⟨w2, ew2⟩ : ∃ w2, w2 = u2.alloc (.cells #[.string s, .slice A2 n c2] 24) := ⟨_, rfl⟩
  have hb2 : Below w1.heap.size w1 w2 := by rw [ew2]; exact hb.alloc hb.size _
  have O2 : Hid (w2.ownsRow w1.heap.size 45 2 (.slice A2 n c2) n (rcells rs)) := by rw [ew2]; exact ho.alloc _
  have K2 : Hid (Blk w2 u2.heap.size 24 #[.string s, .slice A2 n c2]) := by rw [ew2]; exact Blk.new _ _ _
  have K12 := Lib.hid (K1.out.below hb2 K1.out.lt)
  have z2 := hb2.size
  have V2 := Lib.hid (V1.out.trans (hb2.mono V1.out.size))
  have R12 := Lib.hid ((Rd.own O1.out).below hb2)
  have E2H := Lib.hid (eqGrammar_same s rs A2 A1 n c2 c1 w2 hM (Rd.own O2.out) (R12.out.more z2))
  have E2 := Lib.hid ew2
  have a1 : w2.cell? ⟨u1.heap.size, 0, none⟩ = some (.string s) := K12.out.cell 0
  have a2 : w2.cell? ⟨u1.heap.size, 1, none⟩ = some (.slice A1 n c1) := K12.out.cell 1
  have a3 : w2.cell? ⟨u2.heap.size, 0, none⟩ = some (.string s) := K2.out.cell 0
  have a4 : w2.cell? ⟨u2.heap.size, 1, none⟩ = some (.slice A2 n c2) := K2.out.cell 1
  have ku := K1.out.below hb K1.out.lt
  have j1 : u2.cell? ⟨u1.heap.size, 0, none⟩ = some (.string s) := ku.cell 0
  have j2 : u2.cell? ⟨u1.heap.size, 1, none⟩ = some (.slice A1 n c1) := ku.cell 1
  have hlt2 : u1.heap.size < u2.heap.size := ku.lt
  have hne2 : ¬ u1.heap.size = u2.heap.size := by omega
  rw [ew2] at a1 a2 a3 a4
  clear ho hb ew2 hb2 K1 O1 ku
  go_wp2_with fail
  rw [← E2.out]
  refine E2H.out.mono ?_
  rintro e w3 ⟨rfl, hb⟩
  have z3 := hb.size
  have V3 := Lib.hid (V2.out.trans (hb.mono V2.out.size))
  have O3 := Lib.hid (own_below O2.out hb)
  have K13 := Lib.hid (K12.out.below hb K12.out.lt)
  have K23 := Lib.hid (K2.out.below hb K2.out.lt)
  have R3 := Lib.hid (R12.out.below (hb.mono z2))
  have MK := Lib.hid (markGrammar_any s A2 n c2 1 w1.heap.size _ w3 (by omega) (by omega) O3.out)
  have b3 : w3.cell? ⟨u2.heap.size, 0, none⟩ = some (.string s) := K23.out.cell 0
  have b4 : w3.cell? ⟨u2.heap.size, 1, none⟩ = some (.slice A2 n c2) := K23.out.cell 1
  clear hb E2H a1 a2 a3 a4 j1 j2
  cases ok
  all_goals
    go_wp2_with fail
    refine MK.out.mono ?_
    rintro e w4 ⟨rfl, ho, hg⟩
    have hb := below_of_grown (B := w1.heap.size) hg (by omega) (fun k e => (O3.out.lt k e).1)
    have z4 := hb.size
    have V4 := Lib.hid (V3.out.trans (hb.mono V1.out.size))
    have K14 := Lib.hid (K13.out.grown hg (own_blk_ne O3.out K13.out (by decide)))
    have K24 := Lib.hid (K23.out.grown hg (own_blk_ne O3.out K23.out (by decide)))
    have R4 := Lib.hid (R3.out.below hb)
    have M4 := Lib.hid (Rd.own ho)
    have H4 := Lib.hid (heldGrammar_any s A2 n c2 1 w4 (by omega) (by omega) M4.out)
    have d3 : w4.cell? ⟨u2.heap.size, 0, none⟩ = some (.string s) := K24.out.cell 0
    have d4 : w4.cell? ⟨u2.heap.size, 1, none⟩ = some (.slice A2 n c2) := K24.out.cell 1
    clear ho hg hb MK b3 b4
    go_wp2_with fail
    refine H4.out.mono ?_
    rintro e w5 ⟨rfl, hb⟩
    have z5 := hb.size
    have V5 := Lib.hid (V4.out.trans (hb.mono V4.out.size))
    have K15 := Lib.hid (K14.out.below hb K14.out.lt)
    have K25 := Lib.hid (K24.out.below hb K24.out.lt)
    have R5 := Lib.hid (R4.out.below (hb.mono (by omega)))
    have M5 := Lib.hid ((M4.out.below hb).more z5)
    clear hb H4 d3 d4
    go_wp2_with fail
    refine (IC.out w5 V5.out).mono ?_
    rintro e u6 ⟨A6, c6, rfl, ho, hb⟩
    obtain ⟨w6, ew6⟩ : ∃ w6, w6 = u6.alloc (.cells #[.string s, .slice A6 n c6] 24) := ⟨_, rfl⟩
    have hb6 : Below w5.heap.size w5 w6 := by rw [ew6]; exact hb.alloc hb.size _
    have O6 : Hid (w6.ownsRow w5.heap.size 45 2 (.slice A6 n c6) n (rcells rs)) := by rw [ew6]; exact ho.alloc _
    have K66 : Hid (Blk w6 u6.heap.size 24 #[.string s, .slice A6 n c6]) := by rw [ew6]; exact Blk.new _ _ _
    have z6 := hb6.size
    have V6 := Lib.hid (V5.out.trans (hb6.mono V5.out.size))
    have K16 := Lib.hid (K15.out.below hb6 K15.out.lt)
    have K26 := Lib.hid (K25.out.below hb6 K25.out.lt)
    have R6 := Lib.hid ((R5.out.below (hb6.mono (by omega))).more (show w1.heap.size ≤ w6.heap.size by omega))
    have M6 := Lib.hid ((M5.out.below hb6).more z6)
    have EQ6 := Lib.hid (eqGrammar_same s rs A6 A1 n c6 c1 w6 hM (Rd.own O6.out) R6.out)
    have E6 := Lib.hid ew6
    have f1 : w6.cell? ⟨u1.heap.size, 0, none⟩ = some (.string s) := K16.out.cell 0
    have f2 : w6.cell? ⟨u1.heap.size, 1, none⟩ = some (.slice A1 n c1) := K16.out.cell 1
    have f3 : w6.cell? ⟨u6.heap.size, 0, none⟩ = some (.string s) := K66.out.cell 0
    have f4 : w6.cell? ⟨u6.heap.size, 1, none⟩ = some (.slice A6 n c6) := K66.out.cell 1
    have ku := K15.out.below hb K15.out.lt
    have i1 : u6.cell? ⟨u1.heap.size, 0, none⟩ = some (.string s) := ku.cell 0
    have i2 : u6.cell? ⟨u1.heap.size, 1, none⟩ = some (.slice A1 n c1) := ku.cell 1
    have hlt6 : u1.heap.size < u6.heap.size := ku.lt
    have hne6 : ¬ u1.heap.size = u6.heap.size := by omega
    rw [ew6] at f1 f2 f3 f4
    clear ho hb hb6 ew6 ku
    go_wp2_with fail
    rw [← E6.out]
    refine EQ6.out.mono ?_
    rintro e w7 ⟨rfl, hb⟩
    have z7 := hb.size
    have V7 := Lib.hid (V6.out.trans (hb.mono V6.out.size))
    have K27 := Lib.hid (K26.out.below hb K26.out.lt)
    have M7 := Lib.hid ((M6.out.below hb).more z7)
    have H7 := Lib.hid (heldGrammar_any s A2 n c2 1 w7 (by omega) (by omega) M7.out)
    have g3 : w7.cell? ⟨u2.heap.size, 0, none⟩ = some (.string s) := K27.out.cell 0
    have g4 : w7.cell? ⟨u2.heap.size, 1, none⟩ = some (.slice A2 n c2) := K27.out.cell 1
    clear hb EQ6 f1 f2 f3 f4 i1 i2
    go_wp2_with fail
    refine H7.out.mono ?_
    rintro e w8 ⟨rfl, hb⟩
    have V8 := Lib.hid (V7.out.trans (hb.mono V7.out.size))
    clear hb H7 g3 g4
    go_wp2
    go_ret
    exact ⟨rfl, V8.out⟩
end Go.Proofs.YthgdikdcbkhgjaaDoor

/- Walk: the law on JournalOf. Conditions: the list is shorter than 2^63, and so is each text; the library's powers of ten hold what the program lays. -/
import Derived.Test.YthgdikdcbkhgjaaDoorJb
import Derived.Test.YthgdikdcbkhgjaaDoorJt
namespace Go.Proofs.YthgdikdcbkhgjaaDoor
open Go.RowKit

theorem jo_one (L : List ByteArray) : ∃ (o : ByteArray) (ok : Bool), ∀ e, JO L e → e = .returned (.tuple #[.string o, .bool ok]) := by
  by_cases h : jok L
  · refine ⟨jrn 0 L, true, fun e he => ?_⟩
    rcases he with ⟨_, rfl⟩ | ⟨hn, _⟩
    · rfl
    · exact absurd h hn
  · refine ⟨⟨#[]⟩, false, fun e he => ?_⟩
    rcases he with ⟨hy, _⟩ | ⟨_, rfl⟩
    · exact absurd hy h
    · rfl
set_option maxRecDepth 100000 in
set_option maxHeartbeats 4000000 in
theorem lawJo_any (A : Option Addr) (n c : Nat) (L : List ByteArray) (w : World) (hn : n ≤ maxLen) (hs : ∀ x ∈ L, x.size ≤ maxLen) (hA : Rd w w.heap.size 1 A n (L.map Value.string)) (htab : Lib.TabIs Tryd.prog w "internal/strconv.uint64pow10" .u64 Lib.pow10Tab) :
    Calls Tryd.prog 5 #[.slice A n c] w fun e w' => e = .returned (.bool true) ∧ Below w.heap.size w w' := by
  have SZ := Lib.hid (szStringS_any A n c L w hn hs hA)
  have KT := Lib.hid (Lib.tabBelow_of_tabIs htab)
  have HA := Lib.hid hA
  obtain ⟨o, ok, hu⟩ := jo_one L
  have HU := Lib.hid hu
  have hoo : (!(o.toList == o.toList)) = false := by simp
  clear htab hs hA hu
  go_enter Tryd.func5, Tryd.ntmps5
  go_wp2_with fail
  refine SZ.out.mono ?_
  rintro e w0 ⟨h0, hcase⟩
  obtain rfl := h0.symm
  rcases hcase with rfl | ⟨r, rfl, hn2, hs2⟩
  · go_wp2
    go_ret
    exact ⟨rfl, Below.refl _ _⟩
  have HS2 := Lib.hid hs2
  have T1 := Lib.hid (toStringS_any A n c L w hn2 HA.out)
  clear hs2 SZ
  go_wp2_with fail
  refine T1.out.mono ?_
  rintro e w1 ⟨A1, rfl, ho, hb⟩
  have V1 := Lib.hid hb
  have z1 := hb.size
  have SC := Lib.hid (specJo_any A1 n n L w1 hn2 HS2.out (Rd.own ho))
  clear ho hb T1
  go_wp2_with fail
  refine SC.out.mono ?_
  rintro e w2 ⟨he, hb⟩
  obtain rfl := HU.out _ he
  have V2 := Lib.hid (V1.out.trans (hb.mono z1))
  have z2 := V2.out.size
  have T2 := Lib.hid (toStringS_any A n n L w2 hn2 ((HA.out.below V2.out).more z2))
  have T2' := Lib.hid (toStringS_any A n c L w2 hn2 ((HA.out.below V2.out).more z2))
  clear he hb SC
  go_wp2_with fail
  refine T2'.out.mono ?_
  rintro e w3 ⟨A3, rfl, ho, hb⟩
  have V3 := Lib.hid (V2.out.trans (hb.mono z2))
  have z3 := V3.out.size
  have O3 := Lib.hid ho
  have IC := Lib.hid (implJo_any A3 n n L w3 hn2 HS2.out (Rd.own ho) (KT.out w3 V3.out))
  clear ho hb T2 T2'
  go_wp2_with fail
  refine IC.out.mono ?_
  rintro e w4 ⟨he, hb⟩
  obtain rfl := HU.out _ he
  have V4 := Lib.hid (V3.out.trans (hb.mono z3))
  have z4 := V4.out.size
  have O4 := Lib.hid (own_below O3.out hb)
  have T4 := Lib.hid (toStringS_any A n c L w4 hn2 ((HA.out.below V4.out).more z4))
  clear he hb IC
  cases ok
  all_goals
    go_wp2_with fail
    refine T4.out.mono ?_
    rintro e w5 ⟨A5, rfl, ho, hb⟩
    have V5 := Lib.hid (V4.out.trans (hb.mono z4))
    have z5 := hb.size
    have E5 := Lib.hid (eqStringS_same A3 A5 n n n L w5 hn (Rd.own (own_below O4.out hb)) (Rd.own ho))
    clear ho hb
    go_wp2_with fail
    refine E5.out.mono ?_
    rintro e w6 ⟨rfl, hb⟩
    have V6 := Lib.hid (V5.out.trans (hb.mono V5.out.size))
    clear hb
    go_wp2
    go_ret
    exact ⟨rfl, V6.out⟩
end Go.Proofs.YthgdikdcbkhgjaaDoor

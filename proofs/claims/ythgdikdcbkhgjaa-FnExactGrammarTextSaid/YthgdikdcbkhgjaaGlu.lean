/- Walk: the law on GrammarText. Conditions: texts are shorter than 2^63. -/
import Derived.Test.YthgdikdcbkhgjaaGo
import Derived.Test.YthgdikdcbkhgjaaGp
namespace Go.Proofs.Ythgdikdcbkhgjaa
open Go.RowKit

set_option maxRecDepth 100000 in
set_option maxHeartbeats 4000000 in
theorem lawGt_any (s0 : ByteArray) (rs : List (ByteArray × ByteArray)) (A : Option Addr) (n c : Nat) (w : World) (hs : s0.size ≤ maxLen) (hn : n ≤ maxLen) (hl : rs.length = n) (hf : Fits rs) (hA : Rd w w.heap.size 2 A n (rcells rs)) :
    Calls Try.prog 4 #[.agg #[.string s0, .slice A n c]] w fun e w' => e = .returned (.bool true) ∧ Below w.heap.size w w' := by
  obtain ⟨v, ev⟩ : ∃ v, v = w.alloc (.cells #[.string s0, .slice A n c] 40) := ⟨_, rfl⟩
  have hbk : Blk v w.heap.size 40 #[.string s0, .slice A n c] := by rw [ev]; exact Blk.new w _ _
  have hwv : Below w.heap.size w v := by rw [ev]; exact (Below.refl _ _).alloc (Nat.le_refl _) _
  have hvz : v.heap.size = w.heap.size + 1 := by rw [ev]; simp
  have hAv : Rd v v.heap.size 2 A n (rcells rs) := (hA.below hwv).more (by omega)
  have k : ∀ w', Below v.heap.size v w' → w'.cell? ⟨w.heap.size, 0, none⟩ = some (.string s0) ∧ w'.cell? ⟨w.heap.size, 1, none⟩ = some (.slice A n c) := fun w' h => ⟨(h.cell hbk.lt).trans (hbk.cell 0), (h.cell hbk.lt).trans (hbk.cell 1)⟩
  have KB := Lib.hid k
  have EV := Lib.hid ev
  have HWV := Lib.hid hwv
  have HAV := Lib.hid hAv
  have HL := Lib.hid hl
  have HF := Lib.hid hf
  have hwv' := hwv.size
  clear k ev hwv hAv hbk hA hl hf
  go_enter Try.func4, Try.ntmps4
  go_wp2_with fail
  rw [← EV.out]
  refine (szGrammar_any s0 rs A n c _ hs hn HL.out HF.out HAV.out).mono ?_
  rintro e w1 ⟨r, rfl, hr0, hr1, hr2, hb⟩
  have V1 := Lib.hid hb
  have z1 := hb.size
  clear hb
  by_cases hr : r < 0
  · go_wp2
    go_ret
    exact ⟨rfl, HWV.out.trans (V1.out.mono (by omega))⟩
  have hn20 : n ≤ 1048576 := by have := hr2 (by omega); omega
  obtain ⟨d0, d1⟩ := KB.out _ V1.out
  go_wp2_with fail
  refine (toGrammar_any s0 rs A n c _ hn20 HL.out ((HAV.out.below V1.out).more (by omega))).mono ?_
  rintro e w2 ⟨A2, rfl, ho, hb⟩
  clear d0 d1
  have z2 := hb.size
  have V2 := Lib.hid (V1.out.trans (hb.mono (by omega)))
  have R2 := Lib.hid (Rd.own ho)
  clear hb ho
  go_wp2_with fail
  refine (specGt_any s0 rs A2 n n w2 hs hn HL.out HF.out R2.out).mono ?_
  rintro e w3 ⟨rfl, hb⟩
  have z3 := hb.size
  have V3 := Lib.hid (V2.out.trans (hb.mono (by omega)))
  obtain ⟨d0, d1⟩ := KB.out _ V3.out
  clear hb R2
  have IC := Lib.hid (fun A w h => implGt_any s0 rs A n n w hs hn HL.out HF.out h)
  generalize gtB s0 rs = x at *
  generalize validG s0 rs = ok at *
  go_wp2_with fail
  refine (toGrammar_any s0 rs A n c _ hn20 HL.out ((HAV.out.below V3.out).more (by omega))).mono ?_
  rintro e w4 ⟨A4, rfl, ho, hb⟩
  clear d0 d1
  have z4 := hb.size
  have V4 := Lib.hid (V3.out.trans (hb.mono (by omega)))
  have O4 := Lib.hid ho
  clear hb ho
  go_wp2_with (first
    | (refine wpList_store_blk rfl _ _ _ rfl w4.heap.size 0 rfl _ rfl [.string s0, .slice A4 n n] rfl 30 #[.string ⟨#[]⟩, .slice none 0 0] #[.string s0, .slice A4 n n] (Blk.new _ _ _) (by kernel_rfl) (by simp) (by simp [Value.oneCell']) rfl ?_; intro w5 kb gb)
    | (refine wpList_load_blk rfl _ _ rfl w4.heap.size 0 rfl 30 _ kb [.string s0, .slice A4 n n] rfl _ Try.underlying30 rfl (by kernel_rfl) ?_)
    | fail)
  have z5 := gb.size
  simp only [World.size_alloc] at z5
  have V5 := Lib.hid (below_boxed V4.out (by omega) gb)
  have O5 := Lib.hid (own_boxed O4.out gb)
  have K5 := Lib.hid kb
  clear gb kb
  refine (IC.out A4 w5 (Rd.own O5.out)).mono ?_
  rintro e w6 ⟨rfl, hb⟩
  have z6 := hb.size
  have V6 := Lib.hid (V5.out.trans (hb.mono (by omega)))
  have O6 := Lib.hid (own_below O5.out hb)
  have K6 := Lib.hid (K5.out.below hb K5.out.lt)
  have hx1 : (!x.toList == x.toList) = false := by simp
  clear hb O5 K5 IC V5
  have SB : Hid (∀ w', Below w6.heap.size w6 w' → w'.cell? ⟨w4.heap.size, 0, none⟩ = some (.string s0) ∧ w'.cell? ⟨w4.heap.size, 1, none⟩ = some (.slice A4 n n) ∧ w'.cell? ⟨w.heap.size, 0, none⟩ = some (.string s0) ∧ w'.cell? ⟨w.heap.size, 1, none⟩ = some (.slice A n c) ∧ Below w6.heap.size w6 w') := fun w' h => by
    have q := KB.out w' (V6.out.trans (h.mono (by omega)))
    have lt := K6.out.lt
    exact ⟨(h.cell lt).trans (K6.out.cell 0), (h.cell lt).trans (K6.out.cell 1), q.1, q.2, h⟩
  have RA : Hid (Rd w6.drew w6.drew.heap.size 2 A n (rcells rs)) := (HAV.out.below V6.out.drew).more (by show _ ≤ w6.heap.size; omega)
  cases ok
  all_goals
    go_wp2_with fail
    go_region_held3 (fun w' => w'.cell? ⟨w4.heap.size, 0, none⟩ = some (.string s0) ∧ w'.cell? ⟨w4.heap.size, 1, none⟩ = some (.slice A4 n n) ∧ w'.cell? ⟨w.heap.size, 0, none⟩ = some (.string s0) ∧ w'.cell? ⟨w.heap.size, 1, none⟩ = some (.slice A n c) ∧ Below w6.heap.size w6 w')
      (first | exact SB.out _ (Below.refl _ _).drew | exact SB.out _ ((Below.refl _ _).drew.trans hb8) | exact SB.out _ (((Below.refl _ _).drew.trans hb8).trans (hb9.mono z8)))
      (first
        | (go_at_call 12; refine (toGrammar_any s0 rs A n c _ hn20 HL.out RA.out).mono ?_; rintro e w8 ⟨A8, rfl, ho8, hb8⟩; have z8 := hb8.size)
        | (go_at_call 14; refine (eqGrammar_same s0 rs A4 A8 n n n _ hn (Rd.own (own_below (w := w6.drew) O6.out hb8)) (Rd.own ho8)).mono ?_; rintro e w9 ⟨rfl, hb9⟩))
    have z8 := hb8.size
    have B9 := Lib.hid (((Below.refl w6.heap.size w6).drew.trans hb8).trans (hb9.mono z8))
    clear hb8 hb9 ho8
    go_wp2
    go_ret
    exact ⟨rfl, HWV.out.trans ((V6.out.trans (B9.out.mono (by omega))).mono (by omega))⟩
end Go.Proofs.Ythgdikdcbkhgjaa

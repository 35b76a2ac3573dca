/- Walk: the law on RecoverJournal. Conditions: the text is shorter than 2^63; the library's own size variable and its powers of ten hold what the program lays. -/
import Derived.Test.YthgdikdcbkhgjaaDoorJr
import Derived.Test.YthgdikdcbkhgjaaDoorJm
namespace Go.Proofs.YthgdikdcbkhgjaaDoor
open Go.RowKit

theorem jrec_len : ∀ (l : List ByteArray) (c : Nat), (jrec c l).1.length ≤ l.length
  | [], _ => Nat.le_refl _
  | x :: l, c => by
    unfold jrec
    cases h : stepJ c x with
    | none => simp
    | some yc =>
      obtain ⟨y, c'⟩ := yc
      have := jrec_len l c'
      simp only [List.length_cons]
      omega
theorem jL_len (s : ByteArray) : (jL s).length ≤ s.size + 1 := by
  have h1 := jrec_len (linesB s) 0
  have h2 := parts_le s
  rw [lines_len] at h1
  unfold jL
  omega
def rjL (s : ByteArray) : List ByteArray := if s.size ≤ 16000 then jL s else []
def rjN (s : ByteArray) : Nat := if s.size ≤ 16000 then jN s else 0
def rjOk (s : ByteArray) : Bool := decide (s.size ≤ 16000)
def RJOut (s : ByteArray) (w : World) (e : Ending) (w' : World) : Prop :=
  ∃ A c, e = .returned (.tuple #[.slice A (rjL s).length c, .int .i64 ((rjN s : Nat) : Int), .bool (rjOk s)]) ∧ w'.ownsRow w.heap.size 9 1 (.slice A (rjL s).length c) (rjL s).length ((rjL s).map Value.string) ∧ Below w.heap.size w w'
theorem RJOut.no {s : ByteArray} {w : World} (h : ¬ s.size ≤ 16000) : RJOut s w (.returned (.tuple #[.slice none 0 0, .int .i64 0, .bool false])) w := by
  have e1 : rjL s = [] := by unfold rjL; rw [if_neg h]
  have e2 : rjN s = 0 := by unfold rjN; rw [if_neg h]
  have e3 : rjOk s = false := by unfold rjOk; simpa using h
  refine ⟨none, 0, by rw [e1, e2, e3]; rfl, ?_, Below.refl _ _⟩
  rw [e1]
  exact ⟨rfl, .inl ⟨rfl, rfl⟩⟩
theorem RJOut.yes {s : ByteArray} {w w' : World} {A : Option Addr} {c : Nat} (h : s.size ≤ 16000) (ho : w'.ownsRow w.heap.size 9 1 (.slice A (jL s).length c) (jL s).length ((jL s).map Value.string)) (hb : Below w.heap.size w w') :
    RJOut s w (.returned (.tuple #[.slice A (jL s).length c, .int .i64 ((jN s : Nat) : Int), .bool true])) w' := by
  have e1 : rjL s = jL s := by unfold rjL; rw [if_pos h]
  have e2 : rjN s = jN s := by unfold rjN; rw [if_pos h]
  have e3 : rjOk s = true := by unfold rjOk; simpa using h
  unfold RJOut
  rw [e1, e2, e3]
  exact ⟨A, c, rfl, ho, hb⟩
set_option maxRecDepth 100000 in
set_option maxHeartbeats 1000000 in
theorem specRj_any (s : ByteArray) (w : World) (hs : s.size ≤ 1048576) : Calls Tryd.prog 19 #[.string s] w (RJOut s w) := by
  by_cases h16 : s.size ≤ 16000
  · have LC := Lib.hid (l08Recover_any s w hs)
    unfold JOut at LC
    have HY := Lib.hid (fun w' A c => @RJOut.yes s w w' A c h16)
    obtain ⟨L, hL⟩ : ∃ L, jL s = L := ⟨_, rfl⟩
    obtain ⟨N, hN⟩ : ∃ N, jN s = N := ⟨_, rfl⟩
    rw [hL, hN] at LC HY
    clear hL hN
    go_enter Tryd.func19, Tryd.ntmps19
    go_wp2_with fail
    refine LC.out.mono ?_
    rintro e w1 ⟨A, c, rfl, ho, hb⟩
    have HO := Lib.hid ho
    have HB := Lib.hid hb
    clear ho hb
    go_wp2
    go_ret3
    exact HY.out _ _ _ HO.out HB.out
  · have HN := Lib.hid (@RJOut.no s w h16)
    go_enter Tryd.func19, Tryd.ntmps19
    go_wp2
    go_ret3
    exact HN.out
set_option maxRecDepth 100000 in
set_option maxHeartbeats 1000000 in
theorem implRj_any (s : ByteArray) (w : World) (hs : s.size ≤ 1048576) (m0 : Int) (hm : w.cell? ⟨0, 0, none⟩ = some (.int .i64 m0)) (htab : Lib.TabIs Tryd.prog w "internal/strconv.uint64pow10" .u64 Lib.pow10Tab) : Calls Tryd.prog 20 #[.string s] w (RJOut s w) := by
  by_cases h16 : s.size ≤ 16000
  · have LC := Lib.hid (recovered_any s w hs m0 hm htab)
    unfold JOut at LC
    have HY := Lib.hid (fun w' A c => @RJOut.yes s w w' A c h16)
    obtain ⟨L, hL⟩ : ∃ L, jL s = L := ⟨_, rfl⟩
    obtain ⟨N, hN⟩ : ∃ N, jN s = N := ⟨_, rfl⟩
    rw [hL, hN] at LC HY
    clear hL hN hm htab
    go_enter Tryd.func20, Tryd.ntmps20
    go_wp2_with fail
    refine LC.out.mono ?_
    rintro e w1 ⟨A, c, rfl, ho, hb⟩
    have HO := Lib.hid ho
    have HB := Lib.hid hb
    clear ho hb
    go_wp2
    go_ret3
    exact HY.out _ _ _ HO.out HB.out
  · have HN := Lib.hid (@RJOut.no s w h16)
    clear hm htab
    go_enter Tryd.func20, Tryd.ntmps20
    go_wp2
    go_ret3
    exact HN.out
set_option maxRecDepth 100000 in
set_option maxHeartbeats 4000000 in
theorem lawRj_any (s : ByteArray) (w : World) (hs : s.size ≤ maxLen) (m0 : Int) (hm : w.cell? ⟨0, 0, none⟩ = some (.int .i64 m0)) (htab : Lib.TabIs Tryd.prog w "internal/strconv.uint64pow10" .u64 Lib.pow10Tab) :
    Calls Tryd.prog 6 #[.string s] w fun e w' => e = .returned (.bool true) ∧ Below w.heap.size w w' := by
  unfold maxLen at hs
  by_cases hbig : 1048576 < s.size
  · clear hm htab
    go_enter Tryd.func6, Tryd.ntmps6
    go_wp2
    go_ret
    exact ⟨rfl, Below.refl _ _⟩
  have hs20 : s.size ≤ 1048576 := by omega
  have hlt0 := World.block_lt_of_cell? w _ hm
  have KT := Lib.tabBelow_of_tabIs htab
  have SC := Lib.hid (specRj_any s w hs20)
  have IC := Lib.hid (fun w1 (hb : Below w.heap.size w w1) => implRj_any s w1 hs20 m0 ((hb.cell hlt0).trans hm) (KT w1 hb))
  have hn : (rjL s).length ≤ 1048577 := by
    have := jL_len s
    unfold rjL
    split
    · omega
    · simp
  unfold RJOut at SC IC
  obtain ⟨L, hL⟩ : ∃ L, rjL s = L := ⟨_, rfl⟩
  obtain ⟨p, hN⟩ : ∃ p, rjN s = p := ⟨_, rfl⟩
  obtain ⟨ok, hK⟩ : ∃ ok, rjOk s = ok := ⟨_, rfl⟩
  rw [hL] at SC IC hn
  rw [hN, hK] at SC IC
  obtain ⟨n, en⟩ : ∃ n, L.length = n := ⟨_, rfl⟩
  rw [en] at SC IC hn
  have hM : n ≤ maxLen := by unfold maxLen; omega
  have hpp : (!((p : Int) == (p : Int))) = false := by simp
  have hkk : (!(ok == ok)) = false := by simp
  clear hm htab hlt0 KT hL hN hK en
  go_enter Tryd.func6, Tryd.ntmps6
  go_wp2_with fail
  refine SC.out.mono ?_
  rintro e w1 ⟨A1, c1, rfl, ho, hb⟩
  have V1 := Lib.hid hb
  have O1 := Lib.hid ho
  clear ho hb
  go_wp2_with fail
  refine (IC.out w1 V1.out).mono ?_
  rintro e w2 ⟨A2, c2, rfl, ho, hb⟩
  have z2 := hb.size
  have V2 := Lib.hid (V1.out.trans (hb.mono V1.out.size))
  have R12 := Lib.hid ((Rd.own O1.out).below hb)
  have O2 := Lib.hid ho
  have E2 := eqStringS_same A2 A1 n c2 c1 L w2 hM (Rd.own ho) (R12.out.more z2)
  have E2H := Lib.hid E2
  clear ho hb E2
  go_wp2_with fail
  refine E2H.out.mono ?_
  rintro e w3 ⟨rfl, hb⟩
  have z3 := hb.size
  have V3 := Lib.hid (V2.out.trans (hb.mono V2.out.size))
  have O3 := Lib.hid (own_below O2.out hb)
  have R3 := Lib.hid (R12.out.below (hb.mono z2))
  have MK := Lib.hid (markStringS_any A2 n c2 1 w1.heap.size _ w3 (by omega) (by omega) O3.out)
  clear hb E2H
  cases ok
  all_goals
    go_wp2_with fail
    refine MK.out.mono ?_
    rintro e w4 ⟨rfl, ho, hg⟩
    have hb := below_of_grown (B := w1.heap.size) hg (by omega) (fun k e => (O3.out.lt k e).1)
    have z4 := hb.size
    have V4 := Lib.hid (V3.out.trans (hb.mono V1.out.size))
    have R4 := Lib.hid (R3.out.below hb)
    have M4 := Lib.hid (Rd.own ho)
    have H4 := Lib.hid (heldStringS_any A2 n c2 1 w4 (by omega) (by omega) M4.out)
    clear ho hg hb MK
    go_wp2_with fail
    refine H4.out.mono ?_
    rintro e w5 ⟨rfl, hb⟩
    have z5 := hb.size
    have V5 := Lib.hid (V4.out.trans (hb.mono V4.out.size))
    have R5 := Lib.hid (R4.out.below (hb.mono (by omega)))
    have M5 := Lib.hid ((M4.out.below hb).more z5)
    clear hb H4
    go_wp2_with fail
    refine (IC.out w5 V5.out).mono ?_
    rintro e w6 ⟨A6, c6, rfl, ho, hb⟩
    have z6 := hb.size
    have V6 := Lib.hid (V5.out.trans (hb.mono V5.out.size))
    have R6 := Lib.hid ((R5.out.below (hb.mono (by omega))).more (show w1.heap.size ≤ w6.heap.size by omega))
    have M6 := Lib.hid ((M5.out.below hb).more z6)
    have E6 := Lib.hid (eqStringS_same A6 A1 n c6 c1 L w6 hM (Rd.own ho) R6.out)
    clear ho hb
    go_wp2_with fail
    refine E6.out.mono ?_
    rintro e w7 ⟨rfl, hb⟩
    have z7 := hb.size
    have V7 := Lib.hid (V6.out.trans (hb.mono V6.out.size))
    have M7 := Lib.hid ((M6.out.below hb).more z7)
    have H7 := Lib.hid (heldStringS_any A2 n c2 1 w7 (by omega) (by omega) M7.out)
    clear hb E6
    go_wp2_with fail
    refine H7.out.mono ?_
    rintro e w8 ⟨rfl, hb⟩
    have V8 := Lib.hid (V7.out.trans (hb.mono V7.out.size))
    clear hb H7
    go_wp2
    go_ret
    exact ⟨rfl, V8.out⟩
end Go.Proofs.YthgdikdcbkhgjaaDoor

/- Walk: the law on RecoverShapes. Condition: the text is shorter than 2^63. -/
import Derived.Test.YtlklpfjcnbkhlaaRm
namespace Go.Proofs.Ytlklpfjcnbkhlaa
open Go.RowKit

theorem recE_exists : ∀ (b : Nat) (s : List Nat), ∃ L, RecE s b L := by
  intro b
  induction b with
  | zero => exact fun s => ⟨[], fun x hx => by simp at hx, Nat.le_refl _, s, rfl, .inl rfl⟩
  | succ b ih =>
    intro s
    by_cases h : ∃ (x : Rdd) (r : List Nat), x.ok ∧ x.whole ++ r = s
    · obtain ⟨x, r, h1, h2⟩ := h
      obtain ⟨L, hok, hl, r', hr, hs⟩ := ih r
      refine ⟨x :: L, fun y hy => ?_, by simp; omega, r', ?_, ?_⟩
      · rw [List.mem_cons] at hy
        rcases hy with rfl | hy
        · exact h1
        · exact hok y hy
      · rw [← h2, ← hr]
        simp [catR]
      · rcases hs with h | h
        · exact .inl (by simp; omega)
        · exact .inr h
    · exact ⟨[], fun x hx => by simp at hx, Nat.zero_le _, s, rfl, .inr (fun x hx r hr => h ⟨x, r, hx, hr⟩)⟩
/-- A recovery's outcome, by parts. -/
def RcOut (L : List Rdd) (w : World) (e : Ending) (w' : World) : Prop :=
  ∃ (M : List Shp) (g c : Nat), e = .returned (.tuple #[.slice (some ⟨g, 0, none⟩) L.length c, .int .i64 (((catR L).length : Nat) : Int), .bool true]) ∧ MS w' w.heap.size g c L M ∧ Below w.heap.size w w'
theorem rc_unif {s : ByteArray} {w w' : World} {e : Ending} (h : RecOut s w e w') {L : List Rdd} (hL : RecE (nums s) 8 L) : RcOut L w e w' := by
  obtain ⟨L', M, g, c, hL', he, hm, hb⟩ := h
  obtain rfl := recE_uniq _ _ _ _ hL' hL
  exact ⟨M, g, c, he, hm, hb⟩
theorem MS.shr {w : World} {base g c : Nat} {L : List Rdd} {M : List Shp} (h : MS w base g c L M) : ShR w w.heap.size (some ⟨g, 0, none⟩) L.length M := ⟨h.len, Rd.own h.own, fun s hs => Rd.own (h.cells s hs)⟩
theorem MS.cs256 {w : World} {base g c : Nat} {L : List Rdd} {M : List Shp} (h : MS w base g c L M) (ho : ∀ x ∈ L, x.ok) : ∀ s ∈ M, s.nm.size ≤ 8 ∧ s.cs.length ≤ 256 := fun s hs => by
  have hm : s.ct ∈ M.map Shp.ct := List.mem_map_of_mem hs
  rw [h.ct] at hm
  obtain ⟨x, hx, e⟩ := List.mem_map.1 hm
  have hp := okC_parts (ho x hx)
  unfold Rdd.ct Shp.ct at e
  injection e with e1 e2
  injection e2 with e2 e3
  injection e3 with e3 e4
  rw [← e1, ← e4]
  exact ⟨hp.1, hp.2.2.2⟩
theorem markEnd_same : ∀ (l m : List Shp) (k : Nat), l.map Shp.ct = m.map Shp.ct → markEnd k l = markEnd k m
  | [], [], _, _ => rfl
  | [], _ :: _, _, h => by simp at h
  | _ :: _, [], _, h => by simp at h
  | s :: l, t :: m, k, h => by
    simp only [List.map_cons, List.cons.injEq] at h
    have e : s.cs = t.cs := by
      have := h.1
      unfold Shp.ct at this
      injection this with e1 e2
      injection e2 with e2 e3
      injection e3 with e3 e4
    simp only [markEnd]
    rw [e]
    exact markEnd_same l m _ h.2

set_option maxRecDepth 100000 in
set_option maxHeartbeats 8000000 in
theorem lawRs_any (s : ByteArray) (w : World) (hs : s.size ≤ maxLen) : Calls Try.prog 5 #[.string s] w fun e w' => e = .returned (.bool true) ∧ Below w.heap.size w w' := by
  have hs' := hs
  unfold maxLen at hs'
  by_cases hbig : 1048576 < s.size
  · go_enter Try.func5, Try.ntmps5
    go_wp2
    go_ret
    exact ⟨rfl, Below.refl _ _⟩
  obtain ⟨L, hL⟩ := recE_exists 8 (nums s)
  have SC := Lib.hid (fun w => (specRecover_any s w hs).mono fun e w' h => rc_unif h hL)
  have IC := Lib.hid (fun w => (implRecover_any s w hs).mono fun e w' h => rc_unif h hL)
  have HOK := Lib.hid hL.1
  have hn : L.length ≤ 8 := hL.2.1
  obtain ⟨p, hp⟩ : ∃ p, (catR L).length = p := ⟨_, rfl⟩
  unfold RcOut at SC IC
  rw [hp] at SC IC
  obtain ⟨n, en⟩ : ∃ n, L.length = n := ⟨_, rfl⟩
  rw [en] at SC IC hn
  have EN := Lib.hid en
  have hM : n ≤ maxLen := by unfold maxLen; omega
  clear hL hp en
  go_enter Try.func5, Try.ntmps5
  go_wp2_with fail
  refine (SC.out w).mono ?_
  rintro e w1 ⟨M1, g1, c1, rfl, hm, hb⟩
  have V1 := Lib.hid hb
  have X1 := Lib.hid hm
  clear hm hb
  go_wp2_with fail
  refine (IC.out w1).mono ?_
  rintro e w2 ⟨M2, g2, c2, rfl, hm, hb⟩
  have z2 := hb.size
  have V2 := Lib.hid (V1.out.trans (hb.mono V1.out.size))
  have X2 := Lib.hid (X1.out.below hb)
  have Y2 := Lib.hid hm
  -- the reference's list lies below w1's end
  have R1 : Hid (ShR w1 w1.heap.size (some ⟨g1, 0, none⟩) n M1) := by have := X1.out.shr; rw [EN.out] at this; exact this
  have S21 : Hid (Same M2 M1) := Y2.out.ct.trans X1.out.ct.symm
  have F2 : Hid (ShF M2) := fun t ht => by
    have := Y2.out.cs256 HOK.out t ht
    unfold maxLen
    omega
  have C2 : Hid (∀ t ∈ M2, t.cs.length ≤ 256) := fun t ht => (Y2.out.cs256 HOK.out t ht).2
  have R2 : Hid (ShR w2 w2.heap.size (some ⟨g2, 0, none⟩) n M2) := by have := Y2.out.shr; rw [EN.out] at this; exact this
  have R12 := Lib.hid (R1.out.below hb)
  have W2 := Lib.hid ((R12.out).more z2)
  clear hm hb
  go_wp2_with fail
  refine (eqShapeS_same (some ⟨g2, 0, none⟩) (some ⟨g1, 0, none⟩) n c2 c1 M2 M1 w2 hM F2.out S21.out R2.out W2.out).mono ?_
  rintro e w3 ⟨rfl, hb⟩
  have z3 := hb.size
  have V3 := Lib.hid (V2.out.trans (hb.mono V2.out.size))
  have Y3 := Lib.hid (Y2.out.below hb)
  have R3 : Hid (ShR w3 w1.heap.size (some ⟨g1, 0, none⟩) n M1) := R12.out.below (hb.mono z2)
  clear hb W2 R2
  have hpp : (!((p : Int) == (p : Int))) = false := by simp
  have MK : Hid (Calls Try.prog 18 #[.slice (some ⟨g2, 0, none⟩) n c2, .int .i64 ((1 : Nat) : Int)] w3 fun e w' => e = .returned (.int .i64 ((markEnd 1 M2 : Nat) : Int)) ∧ w'.ownsRow w1.heap.size 34 4 (.slice (some ⟨g2, 0, none⟩) n c2) n (shCells (markAll 1 M2)) ∧ ShO w' w1.heap.size (markAll 1 M2) ∧ Below w1.heap.size w3 w') := by
    have ho := Y3.out.own
    rw [EN.out] at ho
    exact markShapeS_any M2 (some ⟨g2, 0, none⟩) n c2 1 w1.heap.size w3 (by omega) hn (by omega) (by rw [Y3.out.len, EN.out]) C2.out Y3.out.apart ho Y3.out.cells (by omega)
  go_wp2_with fail
  refine MK.out.mono ?_
  rintro e w4 ⟨rfl, ho, hr, hb⟩
  have z4 := hb.size
  have V4 := Lib.hid (V3.out.trans (hb.mono (by have := V1.out.size; omega)))
  have R4 : Hid (ShR w4 w1.heap.size (some ⟨g1, 0, none⟩) n M1) := R3.out.below hb
  have MR4 : Hid (ShR w4 w4.heap.size (some ⟨g2, 0, none⟩) n (markAll 1 M2)) := ⟨by rw [markAll_len, Y3.out.len, EN.out], Rd.own ho, fun t ht => Rd.own (hr t ht)⟩
  have HH : Hid (∀ w', ShR w' w'.heap.size (some ⟨g2, 0, none⟩) n (markAll 1 M2) → Calls Try.prog 19 #[.slice (some ⟨g2, 0, none⟩) n c2, .int .i64 ((1 : Nat) : Int)] w' fun e w'' => e = .returned (.int .i64 ((markEnd 1 M2 : Nat) : Int)) ∧ Below w'.heap.size w' w'') := fun w' h =>
    heldShapeS_any M2 (some ⟨g2, 0, none⟩) n c2 1 w' (by omega) hn (by omega) (by rw [Y3.out.len, EN.out]) C2.out h
  obtain ⟨K, hK⟩ : ∃ K, markEnd 1 M2 = K := ⟨_, rfl⟩
  rw [hK] at HH ⊢
  clear ho hr hb hK MK
  go_wp2_with fail
  refine (HH.out w4 MR4.out).mono ?_
  rintro e w5 ⟨rfl, hb⟩
  have z5 := hb.size
  have V5 := Lib.hid (V4.out.trans (hb.mono V4.out.size))
  have R5 : Hid (ShR w5 w1.heap.size (some ⟨g1, 0, none⟩) n M1) := R4.out.below (hb.mono (by omega))
  have MR5 : Hid (ShR w5 w5.heap.size (some ⟨g2, 0, none⟩) n (markAll 1 M2)) := (MR4.out.below hb).more z5
  have hKK : (!((K : Int) == (K : Int))) = false := by simp
  clear hb
  go_wp2_with fail
  refine (IC.out w5).mono ?_
  rintro e w6 ⟨M6, g6, c6, rfl, hm, hb⟩
  have z6 := hb.size
  have V6 := Lib.hid (V5.out.trans (hb.mono V5.out.size))
  have R6 : Hid (ShR w6 w6.heap.size (some ⟨g1, 0, none⟩) n M1) := (R5.out.below (hb.mono (by omega))).more (by omega)
  have MR6 : Hid (ShR w6 w6.heap.size (some ⟨g2, 0, none⟩) n (markAll 1 M2)) := (MR5.out.below hb).more z6
  have S61 : Hid (Same M6 M1) := hm.ct.trans X1.out.ct.symm
  have F6 : Hid (ShF M6) := fun t ht => by
    have := hm.cs256 HOK.out t ht
    unfold maxLen
    omega
  have Q6 : Hid (ShR w6 w6.heap.size (some ⟨g6, 0, none⟩) n M6) := by have := hm.shr; rw [EN.out] at this; exact this
  clear hm hb
  go_wp2_with fail
  refine (eqShapeS_same (some ⟨g6, 0, none⟩) (some ⟨g1, 0, none⟩) n c6 c1 M6 M1 w6 hM F6.out S61.out Q6.out R6.out).mono ?_
  rintro e w7 ⟨rfl, hb⟩
  have z7 := hb.size
  have V7 := Lib.hid (V6.out.trans (hb.mono V6.out.size))
  have MR7 : Hid (ShR w7 w7.heap.size (some ⟨g2, 0, none⟩) n (markAll 1 M2)) := (MR6.out.below hb).more z7
  clear hb
  go_wp2_with fail
  refine (HH.out w7 MR7.out).mono ?_
  rintro e w8 ⟨rfl, hb⟩
  have V8 := Lib.hid (V7.out.trans (hb.mono V7.out.size))
  clear hb
  go_wp2
  go_ret
  exact ⟨rfl, V8.out⟩
end Go.Proofs.Ytlklpfjcnbkhlaa

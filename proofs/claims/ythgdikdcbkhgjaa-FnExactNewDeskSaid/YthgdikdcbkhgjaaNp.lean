/- Walk: the law on the new desk. -/
import Derived.Test.YthgdikdcbkhgjaaNd
import Derived.Test.YthgdikdcbkhgjaaMc
namespace Go.Proofs.Ythgdikdcbkhgjaa
open Go.RowKit

theorem eqGrammar_same (s : ByteArray) (A A' : Option Addr) (n c c' : Nat) (xs : List Value) (w : World) (hn : n ≤ maxLen) (hs : ∀ v ∈ xs, ∃ s, v = .string s)
    (hA : Rd w w.heap.size 2 A n xs) (hA' : Rd w w.heap.size 2 A' n xs) :
    Calls Try.prog 14 #[.agg #[.string s, .slice A n c], .agg #[.string s, .slice A' n c']] w fun e w' => e = .returned (.bool true) ∧ Below w.heap.size w w' := by
  have h1 : (!s.toList == s.toList) = false := by simp
  have hb0 : ∀ o o', Below w.heap.size w ((w.alloc o).alloc o') := fun o o' => ((Below.refl _ _).alloc (Nat.le_refl _) _).alloc (by simp) _
  have H0 := Lib.hid hb0
  clear hb0
  go_enter Try.func14, Try.ntmps14
  go_wp2_with fail
  refine (eqRuleS_same A A' n c c' xs _ hn hs ((hA.below (H0.out _ _)).more (by simp; omega)) ((hA'.below (H0.out _ _)).more (by simp; omega))).mono ?_
  rintro e w1 ⟨rfl, hb1⟩
  go_wp2
  go_ret
  exact ⟨rfl, (H0.out _ _).trans (hb1.mono (by simp; omega))⟩

theorem rules_str : ∀ v ∈ rulesXs, ∃ s, v = .string s := by
  intro v hv
  simp [rulesXs] at hv
  rcases hv with rfl | rfl | rfl | rfl <;> exact ⟨_, rfl⟩
theorem cok_ok : Cok (3212836864, 0) ∧ Cok (0, 0) ∧ Cok (1082130432, 1082130432) ∧ Cok (1065353216, 0) :=
  ⟨⟨13830554455654793216, 0, by decide⟩, ⟨0, 0, by decide⟩, ⟨4616189618054758400, 4616189618054758400, by decide⟩, ⟨4607182418800017408, 0, by decide⟩⟩
theorem pts_ok : ∀ p ∈ ptsXs, p.1 < 2 ^ 32 ∧ p.2 < 2 ^ 32 ∧ Cok p := by
  intro v hv
  simp [ptsXs] at hv
  rcases hv with rfl | rfl
  · exact ⟨by decide, by decide, cok_ok.2.1⟩
  · exact ⟨by decide, by decide, cok_ok.2.2.2⟩

theorem heldGrammar_any (s : ByteArray) (A : Option Addr) (n c k : Nat) (w : World) (hk0 : 0 < k) (hk : k + 2 * n < 2147483648)
    (hA : Rd w w.heap.size 2 A n ((List.range (2 * n)).map (mtv k))) :
    Calls Try.prog 22 #[.agg #[.string s, .slice A n c], .int .i64 k] w fun e w' => e = .returned (.int .i64 ((k + 2 * n : Nat) : Int)) ∧ Below w.heap.size w w' := by
  have hb0 : ∀ o, Below w.heap.size w (w.alloc o) := fun o => (Below.refl _ _).alloc (Nat.le_refl _) _
  have H0 := Lib.hid hb0
  clear hb0
  go_enter Try.func22, Try.ntmps22
  go_wp2_with fail
  refine (heldRuleS_any A n c k _ hk0 hk ((hA.below (H0.out _)).more (by simp))).mono ?_
  rintro e w1 ⟨rfl, hb1⟩
  go_wp2
  go_ret
  exact ⟨rfl, (H0.out _).trans (hb1.mono (by simp))⟩

theorem markGrammar_any (s : ByteArray) (A : Option Addr) (n c k base : Nat) (xs : List Value) (w : World) (hk0 : 0 < k) (hk : k + 2 * n < 2147483648)
    (hown : w.ownsRow base 62 2 (.slice A n c) n xs) :
    Calls Try.prog 20 #[.agg #[.string s, .slice A n c], .int .i64 k] w fun e w' => e = .returned (.int .i64 ((k + 2 * n : Nat) : Int)) ∧
      w'.ownsRow base 62 2 (.slice A n c) n ((List.range (2 * n)).map (mtv k)) ∧ w.grownBy w' (Value.slice A n c).ownBlock := by
  have hg0 : ∀ o, w.grownBy (w.alloc o) (Value.slice A n c).ownBlock := fun o => World.grownBy_alloc w o _
  have H0 := Lib.hid hg0
  clear hg0
  go_enter Try.func20, Try.ntmps20
  go_wp2_with fail
  refine (markRuleS_any A n c k base xs _ hk0 hk (hown.alloc _)).mono ?_
  rintro e w1 ⟨rfl, ho1, hg1⟩
  go_wp2
  go_ret
  exact ⟨rfl, ho1, grown_trans' (H0.out _) hg1⟩

theorem eqDesk_same (A A' B B' : Option Addr) (w : World) (hA : Rd w w.heap.size 2 A 2 rulesXs) (hB : Rd w w.heap.size 2 B 2 rulesXs)
    (hA' : Rd w w.heap.size 1 A' 2 (ptsXs.map cv)) (hB' : Rd w w.heap.size 1 B' 2 (ptsXs.map cv)) :
    Calls Try.prog 7 #[deskV A A', deskV B B'] w fun e w' => e = .returned (.bool true) ∧ Below w.heap.size w w' := by
  have hb0 : ∀ o o', Below w.heap.size w ((w.alloc o).alloc o') := fun o o' => ((Below.refl _ _).alloc (Nat.le_refl _) _).alloc (by simp) _
  have H0 := Lib.hid hb0
  clear hb0
  unfold deskV
  go_enter Try.func7, Try.ntmps7
  go_wp2_with fail
  refine (eqMap_same 0 3212836864 0 _ (by decide) (by decide) cok_ok.1).mono ?_
  rintro e w1 ⟨rfl, hb1⟩
  obtain ⟨hc1, hf1⟩ := bcell hb1
  have hz1 := hb1.size
  simp only [World.size_alloc] at hz1
  go_wp2_with fail
  refine (eqView_same 0 0 1082130432 4 4 _ (by decide) (by decide) (by decide) cok_ok.2.1 cok_ok.2.2.1).mono ?_
  rintro e w2 ⟨rfl, hb2⟩
  have B2 := Lib.hid (hb1.trans (hb2.mono hb1.size))
  clear hc1 hf1
  obtain ⟨hc2, hf2⟩ := bcell B2.out
  have hz2 := B2.out.size
  simp only [World.size_alloc] at hz2
  have W2 := Lib.hid ((H0.out _ _).trans (B2.out.mono (by simp; omega)))
  go_wp2_with fail
  refine (eqGrammar_same sFX A B 2 2 2 rulesXs _ (by unfold maxLen; omega) rules_str ((hA.below W2.out).more (by omega)) ((hB.below W2.out).more (by omega))).mono ?_
  rintro e w3 ⟨rfl, hb3⟩
  have B3 := Lib.hid (B2.out.trans (hb3.mono B2.out.size))
  clear hc2 hf2
  obtain ⟨hc3, hf3⟩ := bcell B3.out
  have hz3 := B3.out.size
  simp only [World.size_alloc] at hz3
  have W3 := Lib.hid (W2.out.trans (hb3.mono (by omega)))
  go_wp2_with fail
  refine (eqComplex64S_same A' B' 2 2 2 ptsXs _ (by unfold maxLen; omega) pts_ok ((hA'.below W3.out).more (by omega)) ((hB'.below W3.out).more (by omega))).mono ?_
  rintro e w4 ⟨rfl, hb4⟩
  clear hc3 hf3
  go_wp2
  go_ret
  exact ⟨rfl, W3.out.trans (hb4.mono (by omega))⟩

/-- The marks of a desk: of its rules, then of its points. -/
def deskMk : List Value := (List.range (2 * 2)).map (mtv 1)
def deskMc : List Value := (List.range 2).map (cmk 5)

theorem markDesk_any (A A' : Option Addr) (base : Nat) (xs xs' : List Value) (w : World) (hA : w.ownsRow base 62 2 (.slice A 2 2) 2 xs) (hA' : w.ownsRow base 22 1 (.slice A' 2 2) 2 xs') :
    Calls Try.prog 8 #[deskV A A', .int .i64 1] w fun e w' => e = .returned (.int .i64 7) ∧ w'.ownsRow base 62 2 (.slice A 2 2) 2 deskMk ∧ w'.ownsRow base 22 1 (.slice A' 2 2) 2 deskMc ∧
      ∃ wm, w.grownBy wm (Value.slice A 2 2).ownBlock ∧ wm.grownBy w' (Value.slice A' 2 2).ownBlock := by
  have hg0 : ∀ o row, w.grownBy (w.alloc o) row := fun o row => World.grownBy_alloc w o _
  have H0 := Lib.hid hg0
  clear hg0
  unfold deskV
  go_enter Try.func8, Try.ntmps8
  go_wp2_with fail
  refine (markGrammar_any sFX A 2 2 1 base xs _ (by omega) (by omega) (hA.alloc _)).mono ?_
  rintro e w1 ⟨rfl, ho1, hg1⟩
  have hA1 := (hA'.alloc (.cells (deskC A A') 33)).kept hg1 (own_own_ne (hA'.alloc (.cells (deskC A A') 33)) (hA.alloc (.cells (deskC A A') 33)) (by decide))
  have hbk0 : Blk (w.alloc (.cells (deskC A A') 33)) w.heap.size 33 (deskC A A') := Blk.new w _ _
  have hbk : Blk w1 w.heap.size 33 (deskC A A') := hbk0.grown hg1 (own_blk_ne (hA.alloc _) hbk0 (by decide))
  have c8 : w1.cell? ⟨w.heap.size, 8, none⟩ = some (.slice A' 2 2) := hbk.cell 8
  go_wp2_with fail
  refine (markComplex64S_any A' 2 2 5 base xs' _ (by omega) hA1).mono ?_
  rintro e w2 ⟨rfl, ho2, hg2⟩
  go_wp2
  go_ret
  exact ⟨rfl, ho1.kept hg2 (own_own_ne ho1 hA1 (by decide)), ho2, w1, grown_trans' (H0.out _ _) hg1, hg2⟩

theorem heldDesk_any (A A' : Option Addr) (w : World) (hA : Rd w w.heap.size 2 A 2 deskMk) (hA' : Rd w w.heap.size 1 A' 2 deskMc) :
    Calls Try.prog 9 #[deskV A A', .int .i64 1] w fun e w' => e = .returned (.int .i64 7) ∧ Below w.heap.size w w' := by
  have hb0 : ∀ o, Below w.heap.size w (w.alloc o) := fun o => (Below.refl _ _).alloc (Nat.le_refl _) _
  have H0 := Lib.hid hb0
  clear hb0
  unfold deskV
  go_enter Try.func9, Try.ntmps9
  go_wp2_with fail
  refine (heldGrammar_any sFX A 2 2 1 _ (by omega) (by omega) ((hA.below (H0.out _)).more (by simp))).mono ?_
  rintro e w1 ⟨rfl, hb1⟩
  obtain ⟨hc1, hf1⟩ := bcell hb1
  have hz1 := hb1.size
  simp only [World.size_alloc] at hz1
  have W1 := Lib.hid ((H0.out _).trans (hb1.mono (by simp)))
  go_wp2_with fail
  refine (heldComplex64S_any A' 2 2 5 _ (by omega) ((hA'.below W1.out).more (by omega))).mono ?_
  rintro e w2 ⟨rfl, rfl⟩
  go_wp2
  go_ret
  exact ⟨rfl, W1.out⟩

/-- The law. -/
theorem newDesk_law (w : World) : Calls Try.prog 3 #[] w fun e w' => e = .returned (.bool true) ∧ Below w.heap.size w w' := by
  go_enter Try.func3, Try.ntmps3
  go_wp2_with fail
  refine (specDesk _).mono ?_
  rintro e w1 ⟨A, A', rfl, hA, hA', hb1⟩
  have z1 := hb1.size
  unfold deskV
  go_wp2_with (refine wpList_store_blk rfl _ _ _ rfl w1.heap.size 0 rfl _ rfl (deskC A A').toList rfl 33 deskZ (deskC A A') (Blk.new _ _ _) (by kernel_rfl) (by simp [deskZ, deskC]) (by simp [deskC, Value.oneCell']) rfl ?_; intro w2 k2 g2)
  have z2 := g2.size
  simp only [World.size_alloc] at z2
  have B2 := Lib.hid ((hb1.alloc z1 (.cells deskZ 33)).grown g2 (by simp; omega) (by simp; omega))
  have hA2 := own_grown' (hA.alloc (.cells deskZ 33)) g2 (own_blk_ne (hA.alloc _) (Blk.new w1 33 deskZ) (by decide))
  have hA2' := own_grown' (hA'.alloc (.cells deskZ 33)) g2 (own_blk_ne (hA'.alloc _) (Blk.new w1 33 deskZ) (by decide))
  have LA := Lib.hid (fun g e => (hA2.lt g e).2)
  have LA' := Lib.hid (fun g e => (hA2'.lt g e).2)
  refine (implDesk _).mono ?_
  rintro e w3 ⟨B, B', rfl, hB, hB', hb3⟩
  have z3 := hb3.size
  unfold deskV
  have k3 := k2.below hb3 k2.lt
  go_wp2_with (first
    | (refine wpList_store_blk rfl _ _ _ rfl w3.heap.size 0 rfl _ rfl (deskC B B').toList rfl 33 deskZ (deskC B B') (Blk.new _ _ _) (by kernel_rfl) (by simp [deskZ, deskC]) (by simp [deskC, Value.oneCell']) rfl ?_; intro w4 k4 g4
       have j4 := (k3.alloc (.cells deskZ 33)).grown g4 (by simp; have := k2.lt; omega))
    | (refine wpList_load_blk rfl _ _ rfl w3.heap.size 0 rfl 33 (deskC B B') k4 (deskC B B').toList rfl _ Try.underlying33 rfl (by kernel_rfl) ?_)
    | (refine wpList_load_blk rfl _ _ rfl w1.heap.size 0 rfl 33 (deskC A A') j4 (deskC A A').toList rfl _ Try.underlying33 rfl (by kernel_rfl) ?_)
    | fail)
  have z4 := g4.size
  simp only [World.size_alloc] at z4
  have l3 := k2.lt
  have hA4 := own_grown' ((own_below hA2 hb3).alloc (.cells deskZ 33)) g4 (own_blk_ne ((own_below hA2 hb3).alloc _) (Blk.new w3 33 deskZ) (by decide))
  have hA4' := own_grown' ((own_below hA2' hb3).alloc (.cells deskZ 33)) g4 (own_blk_ne ((own_below hA2' hb3).alloc _) (Blk.new w3 33 deskZ) (by decide))
  have hB4 := own_grown' (hB.alloc (.cells deskZ 33)) g4 (own_blk_ne (hB.alloc _) (Blk.new w3 33 deskZ) (by decide))
  have hB4' := own_grown' (hB'.alloc (.cells deskZ 33)) g4 (own_blk_ne (hB'.alloc _) (Blk.new w3 33 deskZ) (by decide))
  have B4 := Lib.hid ((((B2.out.trans (hb3.mono B2.out.size))).alloc (by have := B2.out.size; omega) (.cells deskZ 33)).grown g4 (by have := B2.out.size; simp; omega) (by simp; have := B2.out.size; omega))
  refine (eqDesk_same B B' A A' _ (Rd.own hB4) (Rd.own hA4) (Rd.own hB4') (Rd.own hA4')).mono ?_
  rintro e w5 ⟨rfl, hb5⟩
  have z5 := hb5.size
  have k5 := k4.below hb5 k4.lt
  have j5 := j4.below hb5 j4.lt
  have hA5 := own_below hA4 hb5
  have hA5' := own_below hA4' hb5
  have hB5 := own_below hB4 hb5
  have hB5' := own_below hB4' hb5
  clear hA2 hA2' hA4 hA4' hB4 hB4' hA hA' hB hB'
  go_wp2_with (refine wpList_load_blk rfl _ _ rfl w3.heap.size 0 rfl 33 (deskC B B') k5 (deskC B B').toList rfl _ Try.underlying33 rfl (by kernel_rfl) ?_)
  refine (markDesk_any B B' _ _ _ _ hB5 hB5').mono ?_
  rintro e w6 ⟨rfl, hm6, hm6', wm, gm, gm'⟩
  have hBm' := hB5'.kept gm (own_own_ne hB5' hB5 (by decide))
  have km := k5.grown gm (own_blk_ne hB5 k5 (by decide))
  have k6 := km.grown gm' (own_blk_ne hBm' km (by decide))
  have jm := j5.grown gm (own_blk_ne hB5 j5 (by decide))
  have j6 := jm.grown gm' (own_blk_ne hBm' jm (by decide))
  have hAm := hA5.kept gm (own_ne_lt hB5 LA.out)
  have hA6 := hAm.kept gm' (own_own_ne hAm hBm' (by decide))
  have hAm' := hA5'.kept gm (own_own_ne hA5' hB5 (by decide))
  have hA6' := hAm'.kept gm' (own_ne_lt hBm' LA'.out)
  have zw2 := B2.out.size
  have zw4 := B4.out.size
  have B6 := Lib.hid (((B4.out.trans (hb5.mono B4.out.size)).grown gm (by omega) (fun k e => by have := (hB5.lt k e).1; omega)).grown gm' (by have := gm.size; omega) (fun k e => by have := (hBm'.lt k e).1; omega))
  have zw6 := B6.out.size
  clear hBm' km jm hAm hAm' gm gm' hB5 hB5' hA5 hA5' k5 j5 k4 j4 k3 k2
  go_wp2_with (refine wpList_load_blk rfl _ _ rfl w3.heap.size 0 rfl 33 (deskC B B') k6 (deskC B B').toList rfl _ Try.underlying33 rfl (by kernel_rfl) ?_)
  refine (heldDesk_any B B' _ (Rd.own hm6) (Rd.own hm6')).mono ?_
  rintro e w7 ⟨rfl, hb7⟩
  have z7 := hb7.size
  have k7 := k6.below hb7 k6.lt
  have j7 := j6.below hb7 j6.lt
  have hA7 := own_below hA6 hb7
  have hA7' := own_below hA6' hb7
  have hm7 := own_below hm6 hb7
  have hm7' := own_below hm6' hb7
  clear k6 j6 hA6 hA6' hm6 hm6'
  go_wp2_with fail
  refine (implDesk _).mono ?_
  rintro e w8 ⟨C, C', rfl, hC, hC', hb8⟩
  have z8 := hb8.size
  unfold deskV
  have k8 := k7.below hb8 k7.lt
  have j8 := j7.below hb8 j7.lt
  have lk := k7.lt
  have lj := j7.lt
  go_wp2_with (first
    | (refine wpList_store_blk rfl _ _ _ rfl w8.heap.size 0 rfl _ rfl (deskC C C').toList rfl 33 deskZ (deskC C C') (Blk.new _ _ _) (by kernel_rfl) (by simp [deskZ, deskC]) (by simp [deskC, Value.oneCell']) rfl ?_; intro w9 k9 g9
       have b9 := (k8.alloc (.cells deskZ 33)).grown g9 (by simp; omega)
       have j9 := (j8.alloc (.cells deskZ 33)).grown g9 (by simp; omega))
    | (refine wpList_load_blk rfl _ _ rfl w8.heap.size 0 rfl 33 (deskC C C') k9 (deskC C C').toList rfl _ Try.underlying33 rfl (by kernel_rfl) ?_)
    | (refine wpList_load_blk rfl _ _ rfl w1.heap.size 0 rfl 33 (deskC A A') j9 (deskC A A').toList rfl _ Try.underlying33 rfl (by kernel_rfl) ?_)
    | fail)
  have z9 := g9.size
  simp only [World.size_alloc] at z9
  have hA9 := own_grown' ((own_below hA7 hb8).alloc (.cells deskZ 33)) g9 (own_blk_ne ((own_below hA7 hb8).alloc _) (Blk.new w8 33 deskZ) (by decide))
  have hA9' := own_grown' ((own_below hA7' hb8).alloc (.cells deskZ 33)) g9 (own_blk_ne ((own_below hA7' hb8).alloc _) (Blk.new w8 33 deskZ) (by decide))
  have hm9 := own_grown' ((own_below hm7 hb8).alloc (.cells deskZ 33)) g9 (own_blk_ne ((own_below hm7 hb8).alloc _) (Blk.new w8 33 deskZ) (by decide))
  have hm9' := own_grown' ((own_below hm7' hb8).alloc (.cells deskZ 33)) g9 (own_blk_ne ((own_below hm7' hb8).alloc _) (Blk.new w8 33 deskZ) (by decide))
  have hC9 := own_grown' (hC.alloc (.cells deskZ 33)) g9 (own_blk_ne (hC.alloc _) (Blk.new w8 33 deskZ) (by decide))
  have hC9' := own_grown' (hC'.alloc (.cells deskZ 33)) g9 (own_blk_ne (hC'.alloc _) (Blk.new w8 33 deskZ) (by decide))
  have B9 := Lib.hid (((B6.out.trans ((hb7.mono zw6).trans (hb8.mono (by omega)))).alloc (by omega) (.cells deskZ 33)).grown g9 (by simp; omega) (by simp; omega))
  refine (eqDesk_same C C' A A' _ (Rd.own hC9) (Rd.own hA9) (Rd.own hC9') (Rd.own hA9')).mono ?_
  rintro e w10 ⟨rfl, hb10⟩
  have k10 := b9.below hb10 b9.lt
  have hm10 := own_below hm9 hb10
  have hm10' := own_below hm9' hb10
  clear k9 b9 j9 k8 j8 hA9 hA9' hm9 hm9' hC9 hC9' hC hC' hA7 hA7' hm7 hm7' g9
  go_wp2_with (refine wpList_load_blk rfl _ _ rfl w3.heap.size 0 rfl 33 (deskC B B') k10 (deskC B B').toList rfl _ Try.underlying33 rfl (by kernel_rfl) ?_)
  refine (heldDesk_any B B' _ (Rd.own hm10) (Rd.own hm10')).mono ?_
  rintro e w11 ⟨rfl, hb11⟩
  go_wp2
  go_ret
  have zb := B9.out.size
  exact ⟨rfl, B9.out.trans ((hb10.mono (by omega)).trans (hb11.mono (by have := hb10.size; omega)))⟩
end Go.Proofs.Ythgdikdcbkhgjaa

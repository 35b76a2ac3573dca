/- Walk: the law on slides. Conditions: rows of bytes. -/
import Derived.Test.YtoibgpmpngccjaaSlq
import Derived.Test.YtoibgpmpngccjaaSls
import Derived.Test.YtoibgpmpngccjaaLc
import Derived.Test.YtoibgpmpngccjaaSlc
import Derived.StillTailTactics
import Derived.Deep.CutRange
import Derived.BigQuiet
import Derived.Deep.QuietTactic
import Derived.Deep.RegionHeld3
namespace Go.Proofs.Ytoibgpmpngccjaa
open Go.RowKit
open Num Quick
attribute [local go_sem] run_store_fl

set_option maxRecDepth 100000 in
theorem lawSl_long (A1 A2 : Option Addr) (n1 c1 n2 c2 : Nat) (w : World) (hn1 : n1 ≤ maxLen) (hn2 : n2 ≤ maxLen) (hbig : ¬ (n1 ≤ 1048576 ∧ n2 ≤ 1048576)) :
    Calls Try.prog 3 #[.slice A1 n1 c1, .slice A2 n2 c2] w fun e w' => e = .returned (.bool true) ∧ Below w.heap.size w w' := by
  have LC := b10Long_any A1 A2 n1 c1 n2 c2 w hn1 hn2
  rw [show (decide (1048576 < n1) || decide (1048576 < n2)) = true by simp; omega] at LC
  have LCH := Lib.hid LC
  clear LC
  go_enter Try.func3, Try.ntmps3
  go_wp2_with fail
  refine LCH.out.mono ?_
  rintro e w1 ⟨rfl, rfl⟩
  go_wp2
  go_ret
  exact ⟨rfl, Below.refl _ _⟩
set_option maxRecDepth 100000 in
set_option maxHeartbeats 100000000 in
theorem lawSl_any (A1 A2 : Option Addr) (n1 c1 n2 c2 : Nat) (bs bs2 : List Nat) (w : World) (hn1 : n1 ≤ 1048576) (hn2 : n2 ≤ 1048576) (hc1 : n1 ≤ c1) (hc2 : n2 ≤ c2) (hbs : ∀ x ∈ bs, x < 256) (hbs2 : ∀ x ∈ bs2, x < 256) (hA : Rd w w.heap.size 1 A1 n1 (bs.map u8v)) (hA2 : Rd w w.heap.size 1 A2 n2 (bs2.map u8v)) :
    Calls Try.prog 3 #[.slice A1 n1 c1, .slice A2 n2 c2] w fun e w' => e = .returned (.bool true) ∧ Below w.heap.size w w' := by
  have LC := b10Long_any A1 A2 n1 c1 n2 c2 w (by unfold maxLen; omega) (by unfold maxLen; omega)
  rw [show (decide (1048576 < n1) || decide (1048576 < n2)) = false by simp; omega] at LC
  have LCH := Lib.hid LC
  have SC := Lib.hid (B10Sheet_any n1 c1 A1 bs w hn1 hc1 hbs hA)
  have hl2 : bs2.length = n2 := by have := hA2.len; simpa using this
  have ATN := Lib.hid (fun i k (hi : i ≤ 1000) (hk : 1 ≤ k) (hk2 : k ≤ 256) => b10At_gen A2 n2 c2 i k bs2 hl2 hn2 hi hk hk2 hbs2)
  have AL2 := Lib.hid hA2
  have SEED := Lib.hid (fun w' (hb : Below w.heap.size w w') => B10Seed_any n2 c2 A2 bs2 w' hn2 hc2 hbs2 ((hA2.below hb).more hb.size))
  clear LC hA hbs hA2 hbs2 hl2
  go_enter Try.func3, Try.ntmps3
  go_wp2_with fail
  refine LCH.out.mono ?_
  rintro e w0 ⟨rfl, hw0⟩
  obtain rfl := hw0.symm
  go_wp2_with fail
  refine SC.out.mono ?_
  rintro e w1 ⟨W, H, xs, Ao, co, rfl, h1, h2, h3, h4, hcl, hq, ho, hb⟩
  obtain ⟨N, eN⟩ : ∃ N, W * H = N := ⟨_, rfl⟩
  rw [eN] at hcl
  obtain ⟨ms, hd⟩ := drawn_of h1 h2 h3 h4 eN hcl hq
  rw [hcl] at ho ⊢
  have D := Lib.hid hd
  have hN1 := hd.n1
  have hN36 := hd.n36
  have V1 := Lib.hid hb
  have S1 : Hid (Held [.low w] w1) := Lib.hid ((Held.nil w1).put (f := .low w) ⟨hb.size, hb⟩)
  obtain ⟨w2, ew2⟩ : ∃ w2, w2 = w1.alloc (.cells #[.int .i64 (W : Int), .int .i64 (H : Int), .slice Ao N co] 26) := ⟨_, rfl⟩
  obtain ⟨g5, eg5⟩ : ∃ g, w1.heap.size = g := ⟨_, rfl⟩
  have S2 := Lib.hid (S1.out.sheet (Rd.own ho) ew2 eg5)
  have E2 := Lib.hid ew2
  have z0 : w2.cell? ⟨w1.heap.size, 0, none⟩ = some (.int .i64 (W : Int)) := by rw [eg5]; exact (S2.out.blk 2 rfl).cell 0
  have z1 : w2.cell? ⟨w1.heap.size, 1, none⟩ = some (.int .i64 (H : Int)) := by rw [eg5]; exact (S2.out.blk 2 rfl).cell 1
  rw [ew2] at z0 z1
  have FL := Lib.hid (fun w' => flat_law W H N w' h1 h2 h3 h4 eN)
  have STL := Lib.hid (fun A c w' hR => still_law W H N c A w' h1 h2 h3 h4 eN hR)
  unfold sheetV
  clear ho hb ew2 hcl eN SC LCH hw0 hq hd V1 S1
  go_wp2_with fail
  rw [← E2.out]
  refine (FL.out _).mono ?_
  rintro e w3 ⟨gF, cF, rfl, hR, hb⟩
  have S3 := Lib.hid (S2.out.below hb)
  obtain ⟨w4, ew4⟩ : ∃ w4, w4 = w3.alloc (.cells #[.int .i64 (W : Int), .int .i64 (H : Int), .slice (some ⟨gF, 0, none⟩) N cF] 26) := ⟨_, rfl⟩
  obtain ⟨g6, eg6⟩ : ∃ g, w3.heap.size = g := ⟨_, rfl⟩
  obtain ⟨fl, efl⟩ : ∃ fl, List.replicate N 1077936128 = fl := ⟨_, rfl⟩
  rw [efl] at hR STL
  have FLE := Lib.hid efl
  have S4 := Lib.hid (S3.out.sheet hR ew4 eg6)
  have E4 := Lib.hid ew4
  clear z0 z1 eg5 hb hR S2 S3 E2 FL efl
  have z0 : w4.cell? ⟨w3.heap.size, 0, none⟩ = some (.int .i64 (W : Int)) := by rw [eg6]; exact (S4.out.blk 4 rfl).cell 0
  have z1 : w4.cell? ⟨w3.heap.size, 1, none⟩ = some (.int .i64 (H : Int)) := by rw [eg6]; exact (S4.out.blk 4 rfl).cell 1
  have z2 : w4.cell? ⟨w3.heap.size, 2, none⟩ = some (.slice (some ⟨gF, 0, none⟩) N cF) := by rw [eg6]; exact (S4.out.blk 4 rfl).cell 2
  rw [ew4] at z0 z1 z2
  clear ew4
  go_wp2_with fail
  rw [← E4.out]
  refine (STL.out _ _ _ (S4.out.rd 3 rfl)).mono ?_
  rintro e w5 ⟨gS, cS, rfl, hR, hb⟩
  have S5 := Lib.hid (S4.out.below hb)
  obtain ⟨w6, ew6⟩ : ∃ w6, w6 = w5.alloc (.cells #[.int .i64 (W : Int), .int .i64 (H : Int), .slice (some ⟨gS, 0, none⟩) N cS] 26) := ⟨_, rfl⟩
  obtain ⟨g8, eg8⟩ : ∃ g, w5.heap.size = g := ⟨_, rfl⟩
  have S6 := Lib.hid (S5.out.sheet hR ew6 eg8)
  have E6 := Lib.hid ew6
  clear z0 z1 z2 eg6 hb hR S4 S5 E4 STL ew6
  obtain ⟨tA, htA, AT0⟩ := ATN.out 0 5 (by omega) (by omega) (by omega)
  obtain ⟨tB, htB, AT1⟩ := ATN.out 1 5 (by omega) (by omega) (by omega)
  obtain ⟨stw, st1, st2⟩ := gn_quo (tA : Int) 2 _ c4.1 c4.2 (by omega) (by omega)
  obtain ⟨shw, sh1, sh2⟩ := gn_quo (tB : Int) 5 _ c32.1 c32.2 (by omega) (by omega)
  have qa := rInt32 (tA : Int)
  have qb := rInt32 (tB : Int)
  have qa2 := r32 st1
  have qb2 := r32 sh1
  have LOW : Hid (∀ w', Below w6.heap.size w6 w' → Below w.heap.size w w') := Lib.hid fun w' hb => ((S6.out.low 0 rfl).2).trans (hb.mono (S6.out.low 0 rfl).1)
  have SP : Hid (∀ w', Below w6.heap.size w6 w' → (w'.cell? ⟨g5, 0, none⟩ = some (.int .i64 (W : Int)) ∧ w'.cell? ⟨g5, 1, none⟩ = some (.int .i64 (H : Int)) ∧ w'.cell? ⟨g5, 2, none⟩ = some (.slice Ao N co) ∧ Below w6.heap.size w6 w')) := Lib.hid fun w' hb => by
    have T := S6.out.below hb
    exact ⟨(T.blk 2 rfl).cell 0, (T.blk 2 rfl).cell 1, (T.blk 2 rfl).cell 2, hb⟩
  have ATH : Hid (∀ w', (w'.cell? ⟨g5, 0, none⟩ = some (.int .i64 (W : Int)) ∧ w'.cell? ⟨g5, 1, none⟩ = some (.int .i64 (H : Int)) ∧ w'.cell? ⟨g5, 2, none⟩ = some (.slice Ao N co) ∧ Below w6.heap.size w6 w') → ∀ z : Int, z = 0 ∨ z = 1 → Calls Try.prog 8 #[.slice A2 n2 c2, .int .i64 z, .int .i64 5] w' fun e w'' => e = .returned (.int .i64 (if z = 0 then (tA : Int) else (tB : Int))) ∧ w'' = w') := Lib.hid fun w' h z hz => by
    rcases hz with rfl | rfl
    · exact AT0 _ w' (AL2.out.below (LOW.out _ h.2.2.2))
    · exact AT1 _ w' (AL2.out.below (LOW.out _ h.2.2.2))
  have BA : Below w6.heap.size w6 w6.drew := (Below.refl _ _).drew
  have BB : Below w6.heap.size w6 (w6.alloc (.cells #[.int .i64 0, .int .i64 0, .slice none 0 0] 26)).drew := ((Below.refl _ _).alloc (Nat.le_refl _) _).drew
  have CA := Lib.hid (slid_law W H N stw shw co tA tB Ao xs ms w6.drew D.out st2 (by omega) sh2 (by omega) ((S6.out.below BA).rd 1 rfl))
  have CB := Lib.hid (slid_law W H N stw shw co tA tB Ao xs ms (w6.alloc (.cells #[.int .i64 0, .int .i64 0, .slice none 0 0] 26)).drew D.out st2 (by omega) sh2 (by omega) ((S6.out.below BB).rd 1 rfl))
  have zB : (w6.alloc (.cells #[.int .i64 0, .int .i64 0, .slice none 0 0] 26)).drew.heap.size = w6.heap.size + 1 := by
    show (w6.alloc _).heap.size = _
    simp
  have KB : Hid (Blk (w6.alloc (.cells #[.int .i64 0, .int .i64 0, .slice none 0 0] 26)).drew w6.heap.size 26 #[.int .i64 0, .int .i64 0, .slice none 0 0]) := Lib.hid (Blk.new _ _ _).drew
  have ZB := Lib.hid zB
  have BBH := Lib.hid BB
  have BAH := Lib.hid BA
  clear st1 sh1 st2 sh2 AT0 AT1 BA BB zB
  go_upto_region 6 with fail
  rw [← E6.out]
  clear E6 eg8
  go_cut [11, 12, 13] from 64 to 77 (fun sp sm sb wx => ∃ (O : List Nat) (zs : Nat → Int) (smw g cO gO B : Nat), sp = .pointer (some ⟨g, 0, none⟩) ∧ sm = .float .f32 smw ∧ sb = .bool true ∧ Hid (O.length = N) ∧ Hid (O.all finW = true) ∧ Hid (msum O = msum xs) ∧ Hid (∀ k, k < N → Gn 7 (zs k) (O.getD k 0) ∧ (zs k).natAbs ≤ 20000) ∧ (FloatKind.f32.format.order smw 0 == some .lt) = false ∧
    Hid (Held ([.low w] ++ [.rd g5 1 Ao N (xs.map fv)] ++ [.blk g5 26 #[.int .i64 (W : Int), .int .i64 (H : Int), .slice Ao N co]] ++ [.rd g6 1 (some ⟨gF, 0, none⟩) N (fl.map fv)] ++ [.blk g6 26 #[.int .i64 (W : Int), .int .i64 (H : Int), .slice (some ⟨gF, 0, none⟩) N cF]] ++ [.rd g8 1 (some ⟨gS, 0, none⟩) N (fl.map fv)] ++ [.blk g8 26 #[.int .i64 (W : Int), .int .i64 (H : Int), .slice (some ⟨gS, 0, none⟩) N cS]] ++
      [.rd B 1 (some ⟨gO, 0, none⟩) N (O.map fv)] ++ [.blk g 26 #[.int .i64 (W : Int), .int .i64 (H : Int), .slice (some ⟨gO, 0, none⟩) N cO]]) wx))
  case first =>
    as_aux_lemma =>
      obtain ⟨z0, z1, z2, _⟩ := SP.out _ (Below.refl _ w6)
      go_region_held3 (fun w' => w'.cell? ⟨g5, 0, none⟩ = some (.int .i64 (W : Int)) ∧ w'.cell? ⟨g5, 1, none⟩ = some (.int .i64 (H : Int)) ∧ w'.cell? ⟨g5, 2, none⟩ = some (.slice Ao N co) ∧ Below w6.heap.size w6 w')
        (first
          | exact SP.out _ BAH.out
          | exact SP.out _ BBH.out
          | exact SP.out _ H13.out
          | exact SP.out _ (H13.out.alloc Z13.out _)
          | exact SP.out _ (((H13.out.setCell Q13.out _).setCell Q13.out _).setCell Q13.out _)
          | go_keep)
        (first
          | (go_at_call 8; refine (ATH.out _ (by assumption) _ (by first | exact .inl rfl | exact .inr rfl)).mono ?_; rintro e w5 ⟨rfl, hw5⟩; obtain rfl := hw5.symm; first | rw [if_pos rfl] | rw [if_neg (by decide)])
          | (go_at_call 7; with_reducible refine Calls.mono CA.out ?_; rintro e w13 ⟨O, zs, sm, gO, cO, rfl, hlO, hfO, hmO, hzO, hsm, hO, hb⟩
             have H13 : Hid (Below w6.heap.size w6 w13) := Lib.hid (BAH.out.trans (hb.mono BAH.out.size))
             have Z13 : Hid (w6.heap.size ≤ w13.heap.size) := Lib.hid H13.out.size
             have K13 : Hid (Blk (w13.alloc (.cells #[.int .i64 0, .int .i64 0, .slice none 0 0] 26)) w13.heap.size 26 #[.int .i64 0, .int .i64 0, .slice none 0 0]) := Lib.hid (Blk.new _ _ _)
             obtain ⟨r0, f0, r1, f1, r2, f2⟩ := blk_three K13.out
             have Q13 := Z13
             have O13 := Lib.hid hO
             have FIN := Lib.hid (S6.out.late (W := (W : Int)) (H := (H : Int)) H13.out O13.out)
             clear hb hO)
          | (go_at_call 7; with_reducible refine Calls.mono CB.out ?_; rintro e w13 ⟨O, zs, sm, gO, cO, rfl, hlO, hfO, hmO, hzO, hsm, hO, hb⟩
             have H13 : Hid (Below w6.heap.size w6 w13) := Lib.hid (BBH.out.trans (hb.mono (by rw [ZB.out]; omega)))
             have Z13 : Hid (w6.heap.size ≤ w13.heap.size) := Lib.hid H13.out.size
             have K13 : Hid (Blk w13 w6.heap.size 26 #[.int .i64 0, .int .i64 0, .slice none 0 0]) := Lib.hid (KB.out.below hb KB.out.lt)
             obtain ⟨r0, f0, r1, f1, r2, f2⟩ := blk_three K13.out
             have Q13 : Hid (w6.heap.size ≤ w6.heap.size) := Lib.hid (Nat.le_refl _)
             have O13 := Lib.hid hO
             have FIN := Lib.hid (S6.out.early (W := (W : Int)) (H := (H : Int)) H13.out O13.out (Nat.le_refl _) K13.out (by rw [ZB.out]; omega))
             clear hb hO))
      all_goals
        have hlO := Lib.hid hlO
        have hfO := Lib.hid hfO
        have hmO := Lib.hid hmO
        have hzO := Lib.hid hzO
        go_wp2
        go_meet
        obtain ⟨B, g, hH, rfl⟩ := FIN.out
        exact ⟨O, zs, sm, _, cO, gO, B, rfl, rfl, rfl, hlO, hfO, hmO, hzO, hsm, hH⟩
  case rest =>
    obtain ⟨O, zs, smw, g11, cO, gO, B11, rfl, rfl, rfl, hlO, hfO, hmO, hzO, hsm, S7⟩ := hcut
    clear SP ATH CA CB KB ZB BBH BAH LOW qa qb qa2 qb2 S6
    generalize wc = w7 at *
    obtain ⟨tX, htX, AT2⟩ := ATN.out 2 W (by omega) h1 (by omega)
    obtain ⟨tY, htY, AT3⟩ := ATN.out 3 H (by omega) h3 (by omega)
    obtain ⟨tT, htT, AT4⟩ := ATN.out 4 5 (by omega) (by omega) (by omega)
    obtain ⟨tL, htL, AT5⟩ := ATN.out 5 9 (by omega) (by omega) (by omega)
    obtain ⟨tkw, st1, st2⟩ := gn_quo (tT : Int) 3 _ c8.1 c8.2 (by omega) (by omega)
    obtain ⟨lvw, sh1, sh2⟩ := gn_quo (tL : Int) 3 _ c8.1 c8.2 (by omega) (by omega)
    have qa := rInt32 (tT : Int)
    have qb := rInt32 (tL : Int)
    have qa2 := r32 st1
    have qb2 := r32 sh1
    have LOW : Hid (∀ w', Below w7.heap.size w7 w' → Below w.heap.size w w') := Lib.hid fun w' hb => ((S7.out.low 0 rfl).2).trans (hb.mono (S7.out.low 0 rfl).1)
    have SP : Hid (∀ w', Below w7.heap.size w7 w' → (w'.cell? ⟨g5, 0, none⟩ = some (.int .i64 (W : Int)) ∧ w'.cell? ⟨g5, 1, none⟩ = some (.int .i64 (H : Int)) ∧ w'.cell? ⟨g5, 2, none⟩ = some (.slice Ao N co) ∧ Below w7.heap.size w7 w')) := Lib.hid fun w' hb => by
      have T := S7.out.below hb
      exact ⟨(T.blk 2 rfl).cell 0, (T.blk 2 rfl).cell 1, (T.blk 2 rfl).cell 2, hb⟩
    have ATH : Hid (∀ w', (w'.cell? ⟨g5, 0, none⟩ = some (.int .i64 (W : Int)) ∧ w'.cell? ⟨g5, 1, none⟩ = some (.int .i64 (H : Int)) ∧ w'.cell? ⟨g5, 2, none⟩ = some (.slice Ao N co) ∧ Below w7.heap.size w7 w') → ∀ z k : Int, (z = 2 ∧ k = (W : Int)) ∨ (z = 3 ∧ k = (H : Int)) ∨ (z = 4 ∧ k = 5) ∨ (z = 5 ∧ k = 9) → Calls Try.prog 8 #[.slice A2 n2 c2, .int .i64 z, .int .i64 k] w' fun e w'' => e = .returned (.int .i64 (if z = 2 then (tX : Int) else if z = 3 then (tY : Int) else if z = 4 then (tT : Int) else (tL : Int))) ∧ w'' = w') := Lib.hid fun w' h z k hz => by
      rcases hz with ⟨rfl, rfl⟩ | ⟨rfl, rfl⟩ | ⟨rfl, rfl⟩ | ⟨rfl, rfl⟩
      · exact AT2 _ w' (AL2.out.below (LOW.out _ h.2.2.2))
      · exact AT3 _ w' (AL2.out.below (LOW.out _ h.2.2.2))
      · exact AT4 _ w' (AL2.out.below (LOW.out _ h.2.2.2))
      · exact AT5 _ w' (AL2.out.below (LOW.out _ h.2.2.2))
    have BA : Below w7.heap.size w7 w7.drew := (Below.refl _ _).drew
    have BB : Below w7.heap.size w7 (w7.alloc (.cells #[.int .i64 0, .int .i64 0, .slice none 0 0] 26)).drew := ((Below.refl _ _).alloc (Nat.le_refl _) _).drew
    have CA := Lib.hid (drop_law W H N tX tY tL tT co tkw lvw Ao xs ms w7.drew D.out htX htY st2 (by omega) sh2 (by omega) ((S7.out.below BA).rd 1 rfl))
    have CB := Lib.hid (drop_law W H N tX tY tL tT co tkw lvw Ao xs ms (w7.alloc (.cells #[.int .i64 0, .int .i64 0, .slice none 0 0] 26)).drew D.out htX htY st2 (by omega) sh2 (by omega) ((S7.out.below BB).rd 1 rfl))
    have zB : (w7.alloc (.cells #[.int .i64 0, .int .i64 0, .slice none 0 0] 26)).drew.heap.size = w7.heap.size + 1 := by
      show (w7.alloc _).heap.size = _
      simp
    have KB : Hid (Blk (w7.alloc (.cells #[.int .i64 0, .int .i64 0, .slice none 0 0] 26)).drew w7.heap.size 26 #[.int .i64 0, .int .i64 0, .slice none 0 0]) := Lib.hid (Blk.new _ _ _).drew
    have ZB := Lib.hid zB
    have BBH := Lib.hid BB
    have BAH := Lib.hid BA
    clear st1 sh1 st2 sh2 AT2 AT3 AT4 AT5 BA BB zB
    go_upto_region 7 with fail
    go_cut [14, 15, 16] from 78 to 99 (fun sp sm sb wx => ∃ (C : List Nat) (n g cC gC B : Nat), sp = .pointer (some ⟨g, 0, none⟩) ∧ sm = .int .i64 (n : Int) ∧ sb = .bool true ∧ n ≤ 20 ∧ Hid (C.length = N) ∧ Hid (HsOk 6 C) ∧ Hid (InR (msum C - msum xs) (1 / 1000)) ∧
      Hid (Held ([.low w] ++ [.rd g5 1 Ao N (xs.map fv)] ++ [.blk g5 26 #[.int .i64 (W : Int), .int .i64 (H : Int), .slice Ao N co]] ++ [.rd g6 1 (some ⟨gF, 0, none⟩) N (fl.map fv)] ++ [.blk g6 26 #[.int .i64 (W : Int), .int .i64 (H : Int), .slice (some ⟨gF, 0, none⟩) N cF]] ++ [.rd g8 1 (some ⟨gS, 0, none⟩) N (fl.map fv)] ++ [.blk g8 26 #[.int .i64 (W : Int), .int .i64 (H : Int), .slice (some ⟨gS, 0, none⟩) N cS]] ++ [.rd B11 1 (some ⟨gO, 0, none⟩) N (O.map fv)] ++ [.blk g11 26 #[.int .i64 (W : Int), .int .i64 (H : Int), .slice (some ⟨gO, 0, none⟩) N cO]] ++
        [.rd B 1 (some ⟨gC, 0, none⟩) N (C.map fv)] ++ [.blk g 26 #[.int .i64 (W : Int), .int .i64 (H : Int), .slice (some ⟨gC, 0, none⟩) N cC]]) wx))
    case first =>
      as_aux_lemma =>
        obtain ⟨z0, z1, z2, _⟩ := SP.out _ (Below.refl _ w7)
        go_region_held3 (fun w' => w'.cell? ⟨g5, 0, none⟩ = some (.int .i64 (W : Int)) ∧ w'.cell? ⟨g5, 1, none⟩ = some (.int .i64 (H : Int)) ∧ w'.cell? ⟨g5, 2, none⟩ = some (.slice Ao N co) ∧ Below w7.heap.size w7 w')
          (first
            | exact SP.out _ BAH.out
            | exact SP.out _ BBH.out
            | exact SP.out _ H13.out
            | exact SP.out _ (H13.out.alloc Z13.out _)
            | exact SP.out _ (((H13.out.setCell Q13.out _).setCell Q13.out _).setCell Q13.out _)
            | go_keep)
          (first
            | (go_at_call 8; refine (ATH.out _ (by assumption) _ _ (by first | exact .inl ⟨rfl, rfl⟩ | exact .inr (.inl ⟨rfl, rfl⟩) | exact .inr (.inr (.inl ⟨rfl, rfl⟩)) | exact .inr (.inr (.inr ⟨rfl, rfl⟩)))).mono ?_; rintro e w5 ⟨rfl, hw5⟩; obtain rfl := hw5.symm; first | rw [if_pos rfl] | rw [if_neg (by decide), if_pos rfl] | rw [if_neg (by decide), if_neg (by decide), if_pos rfl] | rw [if_neg (by decide), if_neg (by decide), if_neg (by decide)])
            | (go_at_call 9; with_reducible refine Calls.mono CA.out ?_; rintro e w13 ⟨C, n, gC, cC, rfl, hn20, hlC, hsC, hmC, hO, hb⟩
               have H13 : Hid (Below w7.heap.size w7 w13) := Lib.hid (BAH.out.trans (hb.mono BAH.out.size))
               have Z13 : Hid (w7.heap.size ≤ w13.heap.size) := Lib.hid H13.out.size
               have K13 : Hid (Blk (w13.alloc (.cells #[.int .i64 0, .int .i64 0, .slice none 0 0] 26)) w13.heap.size 26 #[.int .i64 0, .int .i64 0, .slice none 0 0]) := Lib.hid (Blk.new _ _ _)
               obtain ⟨r0, f0, r1, f1, r2, f2⟩ := blk_three K13.out
               have Q13 := Z13
               have O13 := Lib.hid hO
               have FIN := Lib.hid (S7.out.late (W := (W : Int)) (H := (H : Int)) H13.out O13.out)
               clear hb hO)
            | (go_at_call 9; with_reducible refine Calls.mono CB.out ?_; rintro e w13 ⟨C, n, gC, cC, rfl, hn20, hlC, hsC, hmC, hO, hb⟩
               have H13 : Hid (Below w7.heap.size w7 w13) := Lib.hid (BBH.out.trans (hb.mono (by rw [ZB.out]; omega)))
               have Z13 : Hid (w7.heap.size ≤ w13.heap.size) := Lib.hid H13.out.size
               have K13 : Hid (Blk w13 w7.heap.size 26 #[.int .i64 0, .int .i64 0, .slice none 0 0]) := Lib.hid (KB.out.below hb KB.out.lt)
               obtain ⟨r0, f0, r1, f1, r2, f2⟩ := blk_three K13.out
               have Q13 : Hid (w7.heap.size ≤ w7.heap.size) := Lib.hid (Nat.le_refl _)
               have O13 := Lib.hid hO
               have FIN := Lib.hid (S7.out.early (W := (W : Int)) (H := (H : Int)) H13.out O13.out (Nat.le_refl _) K13.out (by rw [ZB.out]; omega))
               clear hb hO))
        all_goals
          have hlC := Lib.hid hlC
          have hsC := Lib.hid hsC
          have hmC := Lib.hid hmC
          go_wp2
          go_meet
          obtain ⟨B, g, hH, rfl⟩ := FIN.out
          exact ⟨C, n, _, cC, gC, B, rfl, rfl, rfl, hn20, hlC, hsC, hmC, hH⟩
    case rest =>
      obtain ⟨C, n14, g14, cC, gC, B14, rfl, rfl, rfl, hn20, hlC, hsC, hmC, S8⟩ := hcut
      clear SP ATH CA CB KB ZB BBH BAH LOW qa qb qa2 qb2 S7
      generalize wc = w8 at *
      go_wp2_with fail
      refine (SEED.out _ (S8.out.low 0 rfl).2).mono ?_
      rintro e w9 ⟨sd, rfl, hsd, hb⟩
      have S9 := Lib.hid (S8.out.below hb)
      clear hb S8 SEED ATN AL2
      have z0 := (S9.out.blk 2 rfl).cell 0
      have z1 := (S9.out.blk 2 rfl).cell 1
      have z2 := (S9.out.blk 2 rfl).cell 2
      go_wp2_with fail
      refine (drops_law W H N sd co Ao xs ms w9 D.out hsd (S9.out.rd 1 rfl)).mono ?_
      rintro e w10 ⟨D1, se, gD, cD, rfl, hMany, hlD, hsD, hmD, hR, hb⟩
      have HM := Lib.hid hMany
      have hlD := Lib.hid hlD
      have hsD := Lib.hid hsD
      have hmD := Lib.hid hmD
      have S10 := Lib.hid (S9.out.below hb)
      obtain ⟨w11, ew11⟩ : ∃ x, x = w10.alloc (.cells #[.int .i64 (W : Int), .int .i64 (H : Int), .slice (some ⟨gD, 0, none⟩) N cD] 26) := ⟨_, rfl⟩
      obtain ⟨g18, eg18⟩ : ∃ g, w10.heap.size = g := ⟨_, rfl⟩
      have S11 := Lib.hid (S10.out.sheet hR ew11 eg18)
      have E11 := Lib.hid ew11
      clear z0 z1 z2 hb hR S9 S10 hMany
      have z0 := (S11.out.blk 2 rfl).cell 0
      have z1 := (S11.out.blk 2 rfl).cell 1
      have z2 := (S11.out.blk 2 rfl).cell 2
      rw [ew11] at z0 z1 z2
      clear ew11
      go_wp2_with fail
      rw [← E11.out]
      refine (wants_law W H N sd se co Ao xs D1 ms w11 D.out hsd HM.out hlD.out (S11.out.rd 1 rfl)).mono ?_
      rintro e w12 ⟨gU, cU, rfl, hR, hb⟩
      have S12 := Lib.hid (S11.out.below hb)
      obtain ⟨w13, ew13⟩ : ∃ x, x = w12.alloc (.cells #[.int .i64 (W : Int), .int .i64 (H : Int), .slice (some ⟨gU, 0, none⟩) N cU] 26) := ⟨_, rfl⟩
      obtain ⟨g21, eg21⟩ : ∃ g, w12.heap.size = g := ⟨_, rfl⟩
      have S13 := Lib.hid (S12.out.sheet hR ew13 eg21)
      have E13 := Lib.hid ew13
      clear z0 z1 z2 hb hR S11 S12 E11 eg18 HM
      have z0 := (S13.out.blk 2 rfl).cell 0
      have z1 := (S13.out.blk 2 rfl).cell 1
      have z2 := (S13.out.blk 2 rfl).cell 2
      rw [ew13] at z0 z1 z2
      clear ew13
      have hd := D.out
      have G0 : ∀ k, k < N → Gn 7 (ms k * 2 ^ 5) (xs.getD k 0) ∧ (ms k * 2 ^ 5).natAbs ≤ 20000 := fun k hk => ⟨(hd.gn k hk).up 5, by have := hd.ms k hk; show (ms k * 32).natAbs ≤ _; omega⟩
      have MA := Lib.hid (fun w' hR => mass_grid W H N Ao co xs (fun k => ms k * 2 ^ 5) w' h1 h2 h3 h4 hd.n hd.len hd.fin G0 hR)
      have MB := Lib.hid (fun w' hR => mass_grid W H N (some ⟨gO, 0, none⟩) cO O zs w' h1 h2 h3 h4 hd.n hlO.out hfO.out hzO.out hR)
      have MC := Lib.hid (fun w' hR => mass_near W H N (some ⟨gC, 0, none⟩) cC C w' h1 h2 h3 h4 hd.n hlC.out hsC.out hR)
      have MD := Lib.hid (fun w' hR => mass_near W H N (some ⟨gD, 0, none⟩) cD D1 w' h1 h2 h3 h4 hd.n hlD.out hsD.out hR)
      have VM := mass_val hd.n36 hd.len (hd.hs.mono (by decide +kernel))
      have VC := mass_val hd.n36 hlC.out hsC.out
      have VD := mass_val hd.n36 hlD.out hsD.out
      have VO : Fl .f32 (smF O N) ∧ Num.fv .f32 (smF O N) = msum O := by
        obtain ⟨⟨S, s1, _⟩, s2⟩ := sm_exact hlO.out hd.n36 hzO.out N (Nat.le_refl _)
        rw [take_full hlO.out] at s2
        exact ⟨s1.fin, s2⟩
      have VX : Num.fv .f32 (smF xs N) = msum xs := by
        obtain ⟨_, s2⟩ := sm_exact hd.len hd.n36 G0 N (Nat.le_refl _)
        rw [take_full hd.len] at s2
        exact s2
      have KO : Fl .f32 (smF O N) ∧ InR (Num.fv .f32 (smF O N) - Num.fv .f32 (smF xs N)) (1 / 256) := ⟨VO.1, by rw [VO.2, VX, hmO.out]; unfold InR; constructor <;> grind⟩
      have KC : Fl .f32 (smF C N) ∧ InR (Num.fv .f32 (smF C N) - Num.fv .f32 (smF xs N)) (1 / 256) := ⟨VC.1, by have a := VC.2; have b := hmC.out; rw [VX]; generalize Num.fv .f32 (smF C N) = p at *; unfold InR at *; constructor <;> grind⟩
      have KD : Fl .f32 (smF D1 N) ∧ InR (Num.fv .f32 (smF D1 N) - Num.fv .f32 (smF xs N)) (1 / 256) := ⟨VD.1, by have a := VD.2; have b := hmD.out; rw [VX]; generalize Num.fv .f32 (smF D1 N) = p at *; unfold InR at *; constructor <;> grind⟩
      have HKO := Lib.hid KO
      have HKC := Lib.hid KC
      have HKD := Lib.hid KD
      have HFM := Lib.hid VM.1
      clear hd G0 VM VC VD VO VX KO KC KD hmO hmC hmD hlO hfO hzO hlC hsC
      generalize smF O N = mO at MB HKO
      generalize smF C N = mC at MC HKC
      generalize smF D1 N = mD at MD HKD
      generalize smF xs N = mS at MA HKO HKC HKD HFM
      go_wp2_with fail
      rw [← E13.out]
      refine (MA.out _ (S13.out.rd 1 rfl)).mono ?_
      rintro e w14 ⟨rfl, hb⟩
      have S14 := Lib.hid (S13.out.below hb)
      clear z0 z1 z2 hb S13 E13 eg21 MA
      have z0 := (S14.out.blk 8 rfl).cell 0
      have z1 := (S14.out.blk 8 rfl).cell 1
      have z2 := (S14.out.blk 8 rfl).cell 2
      go_wp2_with fail
      refine (MB.out _ (S14.out.rd 7 rfl)).mono ?_
      rintro e w15 ⟨rfl, hb⟩
      have S15 := Lib.hid (S14.out.below hb)
      clear z0 z1 z2 hb S14 MB
      have z0 := (S15.out.blk 10 rfl).cell 0
      have z1 := (S15.out.blk 10 rfl).cell 1
      have z2 := (S15.out.blk 10 rfl).cell 2
      go_wp2_with fail
      refine (MC.out _ (S15.out.rd 9 rfl)).mono ?_
      rintro e w16 ⟨rfl, hb⟩
      have S16 := Lib.hid (S15.out.below hb)
      clear z0 z1 z2 hb S15 MC
      have z0 := (S16.out.blk 12 rfl).cell 0
      have z1 := (S16.out.blk 12 rfl).cell 1
      have z2 := (S16.out.blk 12 rfl).cell 2
      go_wp2_with fail
      refine (MD.out _ (S16.out.rd 11 rfl)).mono ?_
      rintro e w17 ⟨rfl, hb⟩
      have S17 := Lib.hid (S16.out.below hb)
      clear z0 z1 z2 hb S16 MD
      have z0 := (S17.out.blk 6 rfl).cell 0
      have z1 := (S17.out.blk 6 rfl).cell 1
      have z2 := (S17.out.blk 6 rfl).cell 2
      have y0 := (S17.out.blk 4 rfl).cell 0
      have y1 := (S17.out.blk 4 rfl).cell 1
      have y2 := (S17.out.blk 4 rfl).cell 2
      have n0 : (FloatKind.f32.format.order 0 0 != some .eq) = false := by decide
      have n20 : decide ((20 : Int) < (n14 : Int)) = false := by simp; omega
      have n00 : decide ((n14 : Int) < 0) = false := by simp
      have FLF : Hid (∀ k, k < N → Fl .f32 (fl.getD k 0)) := Lib.hid fun k hk => by
        rw [← FLE.out, List.getD_eq_getElem?_getD, List.getElem?_replicate, if_pos hk]
        exact c3.fin
      have FLN : Hid (fl.length = N) := by unfold Hid; rw [← FLE.out]; simp
      have SA := Lib.hid (SameSheet_same (W : Int) (H : Int) (some ⟨gS, 0, none⟩) (some ⟨gF, 0, none⟩) N cS cF w17.heap.size fl w17 (by unfold maxLen; omega) FLN.out (Nat.le_refl _) FLF.out (S17.out.rd 5 rfl) (S17.out.rd 3 rfl))
      unfold sheetV at SA
      go_wp2_with fail
      refine SA.out.mono ?_
      rintro e w18 ⟨rfl, hb⟩
      have S18 := Lib.hid (S17.out.below hb)
      clear z0 z1 z2 y0 y1 y2 hb S17 SA FLF FLN FLE
      have z0 := (S18.out.blk 12 rfl).cell 0
      have z1 := (S18.out.blk 12 rfl).cell 1
      have z2 := (S18.out.blk 12 rfl).cell 2
      have y0 := (S18.out.blk 14 rfl).cell 0
      have y1 := (S18.out.blk 14 rfl).cell 1
      have y2 := (S18.out.blk 14 rfl).cell 2
      have SB := Lib.hid (SameSheet_same (W : Int) (H : Int) (some ⟨gD, 0, none⟩) (some ⟨gU, 0, none⟩) N cD cU w18.heap.size D1 w18 (by unfold maxLen; omega) hlD.out (Nat.le_refl _) (fun k hk => (hsD.out k (by rw [hlD.out]; exact hk)).1) (S18.out.rd 11 rfl) (S18.out.rd 13 rfl))
      unfold sheetV at SB
      go_wp2_with fail
      refine SB.out.mono ?_
      rintro e w19 ⟨rfl, hb⟩
      have S19 := Lib.hid (S18.out.below hb)
      clear z0 z1 z2 y0 y1 y2 hb S18 SB hsm n0 n20 n00
      obtain ⟨w20, ew20⟩ : ∃ x, x = w19.alloc (.cells #[.float .f32 mO, .float .f32 mC, .float .f32 mD] 30) := ⟨_, rfl⟩
      have S20 : Hid (Held _ w20) := Lib.hid (S19.out.below (by rw [ew20]; exact (Below.refl _ _).alloc (Nat.le_refl _) _))
      obtain ⟨gb, egb⟩ : ∃ g, w19.heap.size = g := ⟨_, rfl⟩
      have R20 : Hid (Blk w20 gb 30 #[.float .f32 mO, .float .f32 mC, .float .f32 mD]) := by rw [ew20, ← egb]; exact Lib.hid (Blk.new _ _ _)
      have KK : Hid (∀ k, k < 3 → ∃ x, w20.cell? ⟨gb, k, none⟩ = some (.float .f32 x) ∧ ∃ y z g, qwide x = some y ∧ qwide mS = some z ∧ (∀ w : World, Calls Try.prog 15 #[.float .f64 y, .float .f64 z] w fun e w' => e = .returned (.float .f64 g) ∧ w' = w) ∧ (FloatKind.f64.format.order g 4576918229304087675 == some .gt) = false) := Lib.hid fun k hk => by
        rcases (by omega : k = 0 ∨ k = 1 ∨ k = 2) with rfl | rfl | rfl
        · exact ⟨mO, R20.out.cell 0, gap_wide HKO.out.1 HFM.out HKO.out.2⟩
        · exact ⟨mC, R20.out.cell 1, gap_wide HKC.out.1 HFM.out HKC.out.2⟩
        · exact ⟨mD, R20.out.cell 2, gap_wide HKD.out.1 HFM.out HKD.out.2⟩
      have E20 := Lib.hid ew20
      clear ew20 S19 R20 HKO HKC HKD HFM
      go_wp2
      rw [← E20.out]
      clear E20
      go_loopw [212] (fun si wr => ∃ k : Nat, k ≤ 3 ∧ si = .int .i64 (k : Int) ∧ Hid (wr = w20)) (fun si _ => 3 - (intOf si).toNat)
      case atStart => exact ⟨0, by omega, rfl, Lib.hid rfl⟩
      case round =>
        obtain ⟨k, hk, rfl, HW⟩ := hrel
        obtain rfl := HW.out
        by_cases hlt : k < 3
        · obtain ⟨x, e0, y, z, g, y1, z1, hg, hgt⟩ := KK.out k hlt
          have r1 := rWide y1
          have r2 := rWide z1
          have HG := Lib.hid hg
          have hki : (k : Int) < 3 := by omega
          clear hg y1 z1 egb
          go_wp2_with fail
          refine (HG.out _).mono ?_
          rintro e w1 ⟨rfl, hw⟩
          obtain rfl := hw.symm
          go_wp2
          go_roundw
          case rel => exact ⟨k + 1, by omega, by go_num, Lib.hid trivial⟩
          case measure => simp [intOf]; omega
        · obtain rfl : k = 3 := by omega
          clear hlt hk KK egb HW
          have hd := D.out
          obtain ⟨ml, mh, dw, hlo, hhi, hle, h32, hdw1, hdw, hbd, hil, hih⟩ := range_facts hd
          have RS := Lib.hid (fun w' hR => RangeOf_calls W H N Ao co xs w' h1 (by omega) h3 (by omega) hd.n hd.len hd.fin hR)
          have NY := Lib.hid (fun ys w' hly hfy hR hgt hys => NormSheet_yes W H N dw Ao co xs ys w' h1 (by omega) h3 (by omega) hd.n hd.len hd.fin hly hfy hR hdw1 hgt hys)
          have NN := Lib.hid (fun w' hR hgt => NormSheet_no W H N dw Ao co xs w' h1 (by omega) h3 (by omega) hd.n hd.len hd.fin hR hdw1 hgt)
          have hgd := hdw.gt (Gn.zero 2)
          have hgo := hhi.gt hlo
          have NF := Lib.hid (fun hlt => norm_facts hd hlo hlt h32 hdw hbd hil hih)
          have hrd := r32 hdw1
          have hen : W * H = N := hd.n
          have HEN := Lib.hid hen
          have HDF := Lib.hid hdw.fin
          have HXL := Lib.hid hd.len
          generalize loF xs N = lo at *
          generalize hiF xs N = hi at *
          unfold sheetV at RS NY NN
          clear hd hlo hhi hle h32 hdw1 hdw hbd hil hih hen
          have z0 := (S20.out.blk 2 rfl).cell 0
          have z1 := (S20.out.blk 2 rfl).cell 1
          have z2 := (S20.out.blk 2 rfl).cell 2
          go_wp2_with fail
          refine (RS.out _ (S20.out.rd 1 rfl)).mono ?_
          rintro e w21 ⟨rfl, hb⟩
          have S21 := Lib.hid (S20.out.below hb)
          clear z0 z1 z2 hb S20 RS
          have z0 := (S21.out.blk 2 rfl).cell 0
          have z1 := (S21.out.blk 2 rfl).cell 1
          have z2 := (S21.out.blk 2 rfl).cell 2
          go_wp2_with fail
          by_cases hlt : ml < mh
          · have hg1 : (FloatKind.f32.format.order dw 0 == some .gt) = true := by rw [hgd]; simp; omega
            have hg2 : (FloatKind.f32.format.order hi lo == some .gt) = true := by rw [hgo]; simpa using hlt
            obtain ⟨ys, bs, hly, hlb, hfy, hfb, hys, hbs, hf0, hf1, hgap⟩ := NF.out hlt
            refine (NY.out ys _ hly hfy (S21.out.rd 1 rfl) hg1 hys).mono ?_
            rintro e w22 ⟨gY, cY, rfl, ho, hb⟩
            rw [hly] at ho ⊢
            have S22 := Lib.hid (S21.out.below hb)
            obtain ⟨w23, ew23⟩ : ∃ x, x = w22.alloc (.cells #[.int .i64 (W : Int), .int .i64 (H : Int), .slice (some ⟨gY, 0, none⟩) N cY] 26) := ⟨_, rfl⟩
            obtain ⟨g37, eg37⟩ : ∃ g, w22.heap.size = g := ⟨_, rfl⟩
            have S23 := Lib.hid (S22.out.sheet (Rd.own ho) ew23 eg37)
            have E23 := Lib.hid ew23
            have RY := Lib.hid (fun w' hR => RangeOf_calls W H N (some ⟨gY, 0, none⟩) cY ys w' h1 (by omega) h3 (by omega) HEN.out hly hfy hR)
            have WS := Lib.hid (fun w' hR => WeighSheets_ok W H N dw 0 (some ⟨gY, 0, none⟩) (some ⟨gY, 0, none⟩) cY cY ys ys bs w' h1 (by omega) h3 (by omega) HEN.out hly hfy hly hfy hlb hfb hR hR HDF.out c0.1 hbs)
            have HGAP := Lib.hid hgap
            have HLB := Lib.hid hlb
            generalize loF ys N = fr at *
            generalize hiF ys N = tq at *
            unfold sheetV at RY WS ⊢
            clear z0 z1 z2 ho hb S21 S22 NY NN NF hgd hgo hly hlb hfy hfb hys hbs hgap HDF hlt
            have z0 : w23.cell? ⟨w22.heap.size, 0, none⟩ = some (.int .i64 (W : Int)) := by rw [eg37]; exact (S23.out.blk 16 rfl).cell 0
            have z1 : w23.cell? ⟨w22.heap.size, 1, none⟩ = some (.int .i64 (H : Int)) := by rw [eg37]; exact (S23.out.blk 16 rfl).cell 1
            have z2 : w23.cell? ⟨w22.heap.size, 2, none⟩ = some (.slice (some ⟨gY, 0, none⟩) N cY) := by rw [eg37]; exact (S23.out.blk 16 rfl).cell 2
            rw [ew23] at z0 z1 z2
            clear ew23
            go_wp2_with fail
            rw [← E23.out]
            refine (RY.out _ (S23.out.rd 15 rfl)).mono ?_
            rintro e w24 ⟨rfl, hb⟩
            have S24 := Lib.hid (S23.out.below hb)
            clear z0 z1 z2 hb S23 E23 RY eg37 hg1 hg2
            have z0 := (S24.out.blk 16 rfl).cell 0
            have z1 := (S24.out.blk 16 rfl).cell 1
            have z2 := (S24.out.blk 16 rfl).cell 2
            go_wp2_with fail
            refine (WS.out _ (S24.out.rd 15 rfl)).mono ?_
            rintro e w25 ⟨gB, cB, rfl, ho, hb⟩
            have hlb := HLB.out
            rw [hlb] at ho ⊢
            have S25 := Lib.hid (S24.out.below hb)
            obtain ⟨w26, ew26⟩ : ∃ x, x = w25.alloc (.cells #[.int .i64 (W : Int), .int .i64 (H : Int), .slice (some ⟨gB, 0, none⟩) N cB] 26) := ⟨_, rfl⟩
            obtain ⟨g42, eg42⟩ : ∃ g, w25.heap.size = g := ⟨_, rfl⟩
            have S26 := Lib.hid (S25.out.sheet (Rd.own ho) ew26 eg42)
            have E26 := Lib.hid ew26
            unfold sheetV
            clear z0 z1 z2 ho hb S24 S25 WS hlb hrd
            have z0 : w26.cell? ⟨w25.heap.size, 0, none⟩ = some (.int .i64 (W : Int)) := by rw [eg42]; exact (S26.out.blk 18 rfl).cell 0
            have z1 : w26.cell? ⟨w25.heap.size, 1, none⟩ = some (.int .i64 (H : Int)) := by rw [eg42]; exact (S26.out.blk 18 rfl).cell 1
            have z2 : w26.cell? ⟨w25.heap.size, 2, none⟩ = some (.slice (some ⟨gB, 0, none⟩) N cB) := by rw [eg42]; exact (S26.out.blk 18 rfl).cell 2
            have y0 : w26.cell? ⟨g5, 0, none⟩ = some (.int .i64 (W : Int)) := (S26.out.blk 2 rfl).cell 0
            have y1 : w26.cell? ⟨g5, 1, none⟩ = some (.int .i64 (H : Int)) := (S26.out.blk 2 rfl).cell 1
            have y2 : w26.cell? ⟨g5, 2, none⟩ = some (.slice Ao N co) := (S26.out.blk 2 rfl).cell 2
            rw [ew26] at z0 z1 z2 y0 y1 y2
            clear ew26
            go_wp2
            rw [← E26.out]
            clear z0 z1 z2 y0 y1 y2 E26 eg42 hf0 hf1
            go_loopw [286] (fun si wr => ∃ k : Nat, k ≤ N ∧ si = .int .i64 (k : Int) ∧ Hid (∃ m, wr = w26.drewN m)) (fun si _ => N - (intOf si).toNat)
            case atStart => exact ⟨0, by omega, rfl, Lib.hid ⟨0, rfl⟩⟩
            case round =>
              obtain ⟨k, hk, rfl, HW⟩ := hrel
              have S27 : Hid (Held _ wr) := Lib.hid (by obtain ⟨m, hm⟩ := HW.out; rw [hm]; exact S26.out.drewN m)
              by_cases hlt : k < N
              · obtain ⟨wb, wl, sm, wx, g, b1, l1, s1, x1, hg, hgt⟩ := HGAP.out k hlt
                have z2 := (S27.out.blk 18 rfl).cell 2
                have y2 := (S27.out.blk 2 rfl).cell 2
                obtain ⟨bb, ob, hbe, _, hcb⟩ := (S27.out.rd 17 rfl).2 (by omega)
                obtain ⟨bx, ox, rfl, _, hcx⟩ := (S27.out.rd 1 rfl).2 (by omega)
                obtain ⟨rfl, rfl⟩ : gB = bb ∧ 0 = ob := by injection hbe with e; injection e with e1 e2; exact ⟨e1, e2⟩
                have e0 := hcb k _ (fv_at HLB.out hlt)
                have e1 := hcx k _ (fv_at HXL.out hlt)
                generalize bs.getD k 0 = bk at e0 b1
                generalize xs.getD k 0 = xk at e1 x1
                have r1 := rWide b1
                have r2 := rWide l1
                have r3 := r64 s1
                have r4 := rWide x1
                have HG := Lib.hid hg
                have hki : (k : Int) < (N : Int) := by omega
                have hk0 : (0 : Int) ≤ (k : Int) := by omega
                rw [Nat.zero_add] at e0
                clear hg b1 l1 s1 x1 hcb hcx hbe
                go_wp2
                go_quiet (first
                  | (go_at_call 15; exact Calls.quiet_of_same (HG.out _)))
                go_wp2
                go_roundw
                case rel => exact ⟨k + 1, by omega, by go_num, Lib.hid (by obtain ⟨m, hm⟩ := HW.out; rw [hm]; exact ⟨_, World.drewN_drewN _ _ _⟩)⟩
                case measure => simp [intOf]; omega
              · obtain rfl : k = N := by omega
                go_wp2
                go_ret
                exact ⟨rfl, (S27.out.low 0 rfl).2⟩
          · have hg1 : (FloatKind.f32.format.order dw 0 == some .gt) = false := by rw [hgd]; simp; omega
            have hg2 : (FloatKind.f32.format.order hi lo == some .gt) = false := by rw [hgo]; simpa using hlt
            refine (NN.out _ (S21.out.rd 1 rfl) hg1).mono ?_
            rintro e w22 ⟨rfl, hb⟩
            have S22 := Lib.hid (S21.out.below hb)
            have S23 := Lib.hid (S22.out.below ((Below.refl _ _).alloc (Nat.le_refl _) (.cells #[.int .i64 0, .int .i64 0, .slice none 0 0] 26)))
            clear z0 z1 z2 hb S21 S22 NY NN NF hgd hgo hlt hg1
            go_wp2
            go_ret
            exact ⟨rfl, (S23.out.low 0 rfl).2⟩
end Go.Proofs.Ytoibgpmpngccjaa

/- Walk: many drops, by the program. Conditions: as each says. -/
import Derived.Test.YtoibgpmpngccjaaHr
namespace Go.Proofs.Ytoibgpmpngccjaa
open Go.RowKit

set_option maxRecDepth 100000 in
set_option maxHeartbeats 8000000 in
theorem implDropsOn_ok (W H N k0 s0 st tk lv : Nat) (A : Option Addr) (c : Nat) (xs : List Nat) (w : World) (h1 : 1 ≤ W) (h2 : W ≤ 17) (h3 : 1 ≤ H) (h4 : H ≤ 17) (hN : W * H = N) (hl : xs.length = N) (hk : k0 ≤ 128) (hst : st ≤ 128) (hs : s0 ≤ 2147483647) (hr : (okTake tk && okShare lv) = true) (hf : xs.all finW = true)
    (hA : Rd w w.heap.size 1 A N (xs.map fv)) :
    Calls Try.prog 11 #[sheetV (W : Int) (H : Int) A N c, .int .i64 (k0 : Int), .int .i64 (st : Int), .float .f32 tk, .float .f32 lv, .int .i64 (s0 : Int)] w (DsRes (nxI W H) W H tk lv st k0 s0 xs w) := by
  have hN289 : N ≤ 289 := by have := Nat.mul_le_mul h2 h4; omega
  have hN1 : 1 ≤ N := by have := Nat.mul_le_mul h1 h3; omega
  obtain ⟨v, ev⟩ : ∃ v, v = (w.alloc (.cells #[.int .i64 (W : Int), .int .i64 (H : Int), .slice A N c] 26)).alloc (.cells #[.int .i64 0, .int .i64 0, .slice none 0 0] 26) := ⟨_, rfl⟩
  have K0 : Blk v w.heap.size 26 #[.int .i64 (W : Int), .int .i64 (H : Int), .slice A N c] := by rw [ev]; exact (Blk.new w _ _).alloc _
  have R0 : Hid (Blk v (w.heap.size + 1) 26 #[.int .i64 0, .int .i64 0, .slice none 0 0]) := by rw [ev]; exact Blk.new2 _ _ _ _
  have V0 : Hid (Below w.heap.size w v) := by rw [ev]; exact ((Below.refl _ _).alloc (Nat.le_refl _) _).alloc (by simp) _
  have A0 : Rd v v.heap.size 1 A N (xs.map fv) := (hA.below V0.out).more V0.out.size
  have IS := areDrops_any (W : Int) (H : Int) (st : Int) tk lv A N c xs v (by unfold maxLen; omega) A0
  rw [okSheet_len h1 h2 h3 h4 (by rw [hN]; exact hl), hf, inB_iff.2 ⟨by omega, by omega⟩, hr] at IS
  have IS0 : Hid (Calls Try.prog 28 #[.agg #[.int .i64 (W : Int), .int .i64 (H : Int), .slice A N c], .int .i64 (st : Int), .float .f32 tk, .float .f32 lv] v fun e w' => e = .returned (.bool true) ∧ Below v.heap.size v w') := IS
  have L1 : Hid (∀ w, Calls Try.prog 29 #[.int .i64 (k0 : Int), .int .i64 0, .int .i64 128] w fun e w' => e = .returned (.bool true) ∧ w' = w) := fun w => by
    have := within_any (k0 : Int) 0 128 w
    rwa [inB_iff.2 ⟨by omega, by omega⟩] at this
  have L2 : Hid (∀ w, Calls Try.prog 31 #[.int .i64 (s0 : Int)] w fun e w' => e = .returned (.bool true) ∧ w' = w) := fun w => by
    have := isSeed_any (s0 : Int) w
    rwa [inB_iff.2 ⟨by omega, by omega⟩] at this
  have NX := Lib.hid (fun s w (h : s ≤ 2147483647) => nextSeed_any s w h)
  have hgl0 : w.heap.size < v.heap.size := K0.lt
  have k00 : ∀ w', Below v.heap.size v w' → w'.cell? ⟨w.heap.size, 0, none⟩ = some (.int .i64 (W : Int)) ∧ w'.cell? ⟨w.heap.size, 1, none⟩ = some (.int .i64 (H : Int)) ∧ w'.cell? ⟨w.heap.size, 2, none⟩ = some (.slice A N c) := fun w' h => ⟨(h.cell hgl0).trans (K0.cell 0), (h.cell hgl0).trans (K0.cell 1), (h.cell hgl0).trans (K0.cell 2)⟩
  have KC := Lib.hid k00
  obtain ⟨b0, b1, b2⟩ := k00 v (Below.refl _ _)
  rw [ev] at b0 b1 b2
  have hg1 : ¬ w.heap.size = w.heap.size + 1 := by omega
  clear k00
  have KV := Lib.hid K0
  have AV := Lib.hid A0
  have EV := Lib.hid ev
  have HL := Lib.hid hl
  have HN := Lib.hid hN
  have HF := Lib.hid hf
  have hvz : v.heap.size = w.heap.size + 2 := by rw [ev]; simp
  have hgl : w.heap.size < v.heap.size := by omega
  unfold sheetV
  clear ev IS K0 A0 hA hl hr hf hN
  go_enter Try.func11, Try.ntmps11
  go_wp2_with fail
  rw [← EV.out]
  refine IS0.out.mono ?_
  rintro e w1 ⟨rfl, hb1⟩
  have K1 := Lib.hid (KV.out.below hb1 KV.out.lt)
  have R1 := Lib.hid (R0.out.below hb1 R0.out.lt)
  have V1 := Lib.hid (V0.out.trans (hb1.mono V0.out.size))
  have A1 := Lib.hid ((AV.out.below hb1).more hb1.size)
  have z1 := hb1.size
  obtain ⟨d0, d1, d2⟩ := KC.out w1 hb1
  clear hb1 IS0 R0 V0 AV KV EV b0 b1 b2 KC
  go_wp2_with fail
  refine (L1.out _).mono ?_
  rintro e w' ⟨rfl, rfl⟩
  go_wp2_with fail
  refine (L2.out _).mono ?_
  rintro e w' ⟨rfl, rfl⟩
  have OW := Lib.hid (copySheet_any (W : Int) (H : Int) N A c xs w' hN1 hN289 HL.out A1.out)
  unfold SheetOut sheetV at OW
  go_wp2_with fail
  refine OW.out.mono ?_
  rintro e u2 ⟨A2, c2, rfl, ho, hb⟩
  obtain ⟨gr, cap, hv, _, hgr⟩ := ho.form (by omega)
  obtain ⟨rfl, rfl⟩ : A2 = some ⟨gr, 0, none⟩ ∧ c2 = cap := by injection hv with q1 _ q3; exact ⟨q1, q3⟩
  obtain ⟨bs, ebs⟩ : ∃ bs, w'.heap.size = bs := ⟨_, rfl⟩
  rw [ebs] at ho
  have hbase : w.heap.size ≤ bs := by rw [← ebs]; exact V1.out.size
  obtain ⟨w3, ew3⟩ : ∃ w3, w3 = u2.alloc (.cells #[.int .i64 (W : Int), .int .i64 (H : Int), .slice (some ⟨gr, 0, none⟩) N c2] 26) := ⟨_, rfl⟩
  have K3 : Hid (Blk w3 u2.heap.size 26 #[.int .i64 (W : Int), .int .i64 (H : Int), .slice (some ⟨gr, 0, none⟩) N c2]) := by rw [ew3]; exact Blk.new _ _ _
  have R3 : Hid (Blk w3 (w.heap.size + 1) 26 #[.int .i64 0, .int .i64 0, .slice none 0 0]) := by rw [ew3]; exact (R1.out.below hb R1.out.lt).alloc _
  have Q3 : Hid (Blk w3 w.heap.size 26 #[.int .i64 (W : Int), .int .i64 (H : Int), .slice A N c]) := by rw [ew3]; exact (K1.out.below hb K1.out.lt).alloc _
  have O3 : Hid (w3.ownsRow bs 30 1 (.slice (some ⟨gr, 0, none⟩) N c2) N (xs.map fv)) := by rw [ew3]; exact ho.alloc _
  have V3 : Hid (Below w.heap.size w w3) := by rw [ew3]; exact (V1.out.trans (hb.mono V1.out.size)).alloc (Nat.le_trans V1.out.size hb.size) _
  have E3 := Lib.hid ew3
  obtain ⟨g2, eg2⟩ : ∃ g2, u2.heap.size = g2 := ⟨_, rfl⟩
  rw [eg2] at K3
  clear ho hb ew3 hv K1 R1 V1 OW A1 ebs d0 d1 d2
  go_wp2
  rw [← E3.out]
  clear E3 eg2
  go_loopw [5, 38] (fun ss sk wr => ∃ (k s : Nat) (C : List Nat), sk = .int .i64 (k : Int) ∧ ss = .int .i64 (s : Int) ∧ k ≤ k0 ∧ s ≤ 2147483647 ∧ Hid (C.length = N) ∧ Hid (C.all finW = true) ∧ Hid (∀ r, Many (nxI W H) W H tk lv st (k0 - k) C s r → Many (nxI W H) W H tk lv st k0 xs s0 r) ∧
    Hid (Blk wr g2 26 #[.int .i64 (W : Int), .int .i64 (H : Int), .slice (some ⟨gr, 0, none⟩) N c2]) ∧ Hid (Blk wr (w.heap.size + 1) 26 #[.int .i64 0, .int .i64 0, .slice none 0 0]) ∧ Hid (Blk wr w.heap.size 26 #[.int .i64 (W : Int), .int .i64 (H : Int), .slice A N c]) ∧ Hid (wr.ownsRow bs 30 1 (.slice (some ⟨gr, 0, none⟩) N c2) N (C.map fv)) ∧ Hid (Below w.heap.size w wr)) (fun _ sk _ => k0 - (intOf sk).toNat)
  case atStart => exact ⟨0, s0, xs, rfl, rfl, Nat.zero_le _, hs, HL.out, HF.out, fun r h => h, K3.out, R3.out, Q3.out, O3.out, V3.out⟩
  case round =>
    clear K3 R3 Q3 O3 V3 HL HF
    obtain ⟨k, s, C, rfl, rfl, hk1, hs1, HL, HF, HM, K, R, Q, O, V⟩ := hrel
    have c0 : wr.cell? ⟨w.heap.size, 0, none⟩ = some (.int .i64 (W : Int)) := Q.out.cell 0
    have c1 : wr.cell? ⟨w.heap.size, 1, none⟩ = some (.int .i64 (H : Int)) := Q.out.cell 1
    have y0 : wr.cell? ⟨g2, 0, none⟩ = some (.int .i64 (W : Int)) := K.out.cell 0
    have y1 : wr.cell? ⟨g2, 1, none⟩ = some (.int .i64 (H : Int)) := K.out.cell 1
    have y2 : wr.cell? ⟨g2, 2, none⟩ = some (.slice (some ⟨gr, 0, none⟩) N c2) := K.out.cell 2
    by_cases hlt : k < k0
    · have N1 := Lib.hid (NX.out s wr hs1)
      have N2 := Lib.hid (NX.out (nxt s) wr (nxt_lt s))
      have hs2 := nxt_lt s
      have hs3 := nxt_lt (nxt s)
      have ex := dpx_cast (nxt s) W
      have ey := dpx_cast (nxt (nxt s)) H
      have hxW : dpx (nxt s) W < W := Nat.mod_lt _ (by omega)
      have hyH : dpx (nxt (nxt s)) H < H := Nat.mod_lt _ (by omega)
      have hpl := placeAt_lt h1 h3 s
      have HPL : Hid (placeAt W H s = dpx (nxt (nxt s)) H * W + dpx (nxt s) W) := rfl
      have HGOOD := Lib.hid (fun Cf m r => @Many.good (nxI W H) W H tk lv st (k0 - (k + 1)) C s Cf m r)
      have HBAD := Lib.hid (fun Cf m => @Many.bad (nxI W H) W H tk lv st (k0 - (k + 1)) C s Cf m)
      obtain ⟨a, ea⟩ : ∃ a, placeAt W H s = a := ⟨_, rfl⟩
      rw [ea] at hpl HPL HGOOD HBAD
      rw [HN.out] at hpl
      obtain ⟨s2, es2⟩ : ∃ s2, nxt (nxt s) = s2 := ⟨_, rfl⟩
      rw [es2] at N2 hs3 ey hyH HPL HGOOD
      obtain ⟨s1, es1⟩ : ∃ s1, nxt s = s1 := ⟨_, rfl⟩
      rw [es1] at N1 N2 hs2 ex hxW HPL
      obtain ⟨px, epx⟩ : ∃ px, dpx s1 W = px := ⟨_, rfl⟩
      obtain ⟨py, epy⟩ : ∃ py, dpx s2 H = py := ⟨_, rfl⟩
      rw [epx] at ex hxW HPL
      rw [epy] at ey hyH HPL
      have hpW : ((py * W : Nat) : Int) = (py : Int) * (W : Int) := by simp
      obtain ⟨P, eP⟩ : ∃ P, py * W = P := ⟨_, rfl⟩
      rw [eP] at hpW HPL
      have hmul : (py : Int) * (W : Int) = (P : Int) := hpW.symm
      have hPa : P + px = a := HPL.out.symm
      have hPle : P + px < N := by omega
      have DC : Hid (Calls Try.prog 30 #[.agg #[.int .i64 (W : Int), .int .i64 (H : Int), .slice (some ⟨gr, 0, none⟩) N c2], .int .i64 ((P : Int) + (px : Int)), .int .i64 (st : Int), .float .f32 tk, .float .f32 lv] wr fun e w'' => ∃ Hf m, e = .returned (.int .i64 ((m : Nat) : Int)) ∧ m ≤ st ∧ Run (nxI W H) tk lv st C a 0 Hf m ∧
          w''.ownsRow bs 30 1 (.slice (some ⟨gr, 0, none⟩) N c2) N (Hf.map fv) ∧ wr.grownBy w'' (some gr)) := by
        have := drop_any W H gr c2 bs (P + px) st tk lv C wr h1 h2 h3 h4 (by rw [HN.out]; exact HL.out) (by rw [HN.out]; exact hPle) hst (by rw [HN.out]; exact O.out)
        rw [HN.out, Int.natCast_add] at this
        rwa [hPa] at this
      clear ea es1 es2 epx epy eP hpW HPL hPa
      go_wp2_with fail
      refine N1.out.mono ?_
      rintro e w5 ⟨rfl, h5⟩
      obtain rfl := h5.symm
      go_wp2_with fail
      refine N2.out.mono ?_
      rintro e w6 ⟨rfl, h6⟩
      obtain rfl := h6.symm
      go_wp2_with fail
      refine DC.out.mono ?_
      rintro e w4 ⟨Cf, m, rfl, hm, hrun, ho4, hg4⟩
      have hlf : Cf.length = N := by rw [run_len hrun]; exact HL.out
      have K4 := Lib.hid (K.out.grown hg4 (own_blk_ne O.out K.out (by decide)))
      have R4 := Lib.hid (R.out.grown hg4 (own_blk_ne O.out R.out (by decide)))
      have Q4 := Lib.hid (Q.out.grown hg4 (own_blk_ne O.out Q.out (by decide)))
      have V4 := Lib.hid (V.out.grown hg4 V.out.size (fun k e => by have := (O.out.lt k e).1; omega))
      have O4 := Lib.hid ho4
      have HRUN := Lib.hid hrun
      have HLF := Lib.hid hlf
      have IS := ValidSheet_any (W : Int) (H : Int) (some ⟨gr, 0, none⟩) N c2 Cf w4 (by unfold maxLen; omega) (Rd.own ho4)
      have f0 : w4.cell? ⟨g2, 0, none⟩ = some (.int .i64 (W : Int)) := K4.out.cell 0
      have f1 : w4.cell? ⟨g2, 1, none⟩ = some (.int .i64 (H : Int)) := K4.out.cell 1
      have f2 : w4.cell? ⟨g2, 2, none⟩ = some (.slice (some ⟨gr, 0, none⟩) N c2) := K4.out.cell 2
      rw [okSheet_len h1 h2 h3 h4 (by rw [hlf]; exact HN.out.symm)] at IS
      have IS4 := Lib.hid IS
      clear ho4 hg4 hrun hlf IS DC K R Q O V c0 c1 N1 N2 y0 y1 y2
      cases hfin : Cf.all finW
      · rw [hfin] at IS4
        have HFIN := Lib.hid hfin
        clear hfin
        go_wp2_with fail
        refine IS4.out.mono ?_
        rintro e w5 ⟨rfl, hb5⟩
        have R5 := Lib.hid (R4.out.below hb5 R4.out.lt)
        have V5 := Lib.hid (V4.out.trans (hb5.mono V4.out.size))
        clear hb5 f0 f1 f2 R4 V4 K4 Q4 O4 IS4
        go_wp2_with (first
          | (refine wpList_store_blk rfl _ _ _ rfl (w.heap.size + 1) 0 rfl _ rfl [.int .i64 0, .int .i64 0, .slice none 0 0] rfl 26 _ #[.int .i64 0, .int .i64 0, .slice none 0 0] R5.out (by kernel_rfl) (by simp) (by simp [Value.oneCell']) rfl ?_; intro w9 k9 g9)
          | fail)
        refine bodyPost_ret (results_row3 rfl _ w9 (w.heap.size + 1) 26 _ _ rfl k9 Try.underlying26 rfl (by kernel_rfl) _ _ rfl rfl) rfl ?_
        refine .inr ⟨?_, srRes_no (V5.out.grown g9 V5.out.size (fun j e => by injection e with e; omega))⟩
        have hb := HBAD.out Cf m HRUN.out HFIN.out
        rw [show k0 - (k + 1) + 1 = k0 - k by omega] at hb
        exact HM.out none hb
      · rw [hfin] at IS4
        have HFIN := Lib.hid hfin
        clear hfin
        go_wp2_with fail
        refine IS4.out.mono ?_
        rintro e w5 ⟨rfl, hb5⟩
        have K5 := Lib.hid (K4.out.below hb5 K4.out.lt)
        have R5 := Lib.hid (R4.out.below hb5 R4.out.lt)
        have Q5 := Lib.hid (Q4.out.below hb5 Q4.out.lt)
        have V5 := Lib.hid (V4.out.trans (hb5.mono V4.out.size))
        have O5 := Lib.hid (own_below O4.out hb5)
        clear hb5 f0 f1 f2 R4 V4 K4 Q4 O4 IS4
        have HM2 : Hid (∀ r, Many (nxI W H) W H tk lv st (k0 - (k + 1)) Cf s2 r → Many (nxI W H) W H tk lv st k0 xs s0 r) := fun r hr => by
          have hb := HGOOD.out Cf m r HRUN.out HFIN.out hr
          rw [show k0 - (k + 1) + 1 = k0 - k by omega] at hb
          exact HM.out r hb
        go_wp2
        go_roundw
        case rel => exact ⟨k + 1, s2, Cf, by go_num, rfl, by omega, hs3, HLF.out, HFIN.out, HM2.out, K5.out, R5.out, Q5.out, O5.out, V5.out⟩
        case measure => simp [intOf]; omega
    · have hk0 : k = k0 := by omega
      subst hk0
      go_wp2_with (first
        | (refine wpList_load_blk rfl _ _ rfl g2 0 rfl 26 _ K.out [.int .i64 (W : Int), .int .i64 (H : Int), .slice (some ⟨gr, 0, none⟩) N c2] rfl _ Try.underlying26 rfl (by kernel_rfl) ?_)
        | (refine wpList_store_blk rfl _ _ _ rfl (w.heap.size + 1) 0 rfl _ rfl [.int .i64 (W : Int), .int .i64 (H : Int), .slice (some ⟨gr, 0, none⟩) N c2] rfl 26 _ #[.int .i64 (W : Int), .int .i64 (H : Int), .slice (some ⟨gr, 0, none⟩) N c2] R.out (by kernel_rfl) (by simp) (by simp [Value.oneCell']) rfl ?_; intro w9 k9 g9)
        | fail)
      refine bodyPost_ret (results_row3 rfl _ w9 (w.heap.size + 1) 26 _ _ rfl k9 Try.underlying26 rfl (by kernel_rfl) _ _ rfl rfl) rfl ?_
      refine .inl ⟨C, s, HM.out _ (by rw [Nat.sub_self]; exact Many.done), some ⟨gr, 0, none⟩, c2, ?_, ?_, V.out.grown g9 V.out.size (fun j e => by injection e with e; omega)⟩
      · rw [HL.out]
        rfl
      · rw [HL.out]
        exact own_base (own_grown' O.out g9 (own_blk_ne O.out R.out (by decide))) hbase
end Go.Proofs.Ytoibgpmpngccjaa

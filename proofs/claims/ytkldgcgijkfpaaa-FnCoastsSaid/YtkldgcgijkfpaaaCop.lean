/- Walk: EvenPoints. Conditions: 2 to 7 points of parts up to 2, a line not of length nothing; nine points asked. -/
import Derived.Test.YtkldgcgijkfpaaaCoo
import Derived.Deep.AppendLies
import Derived.Deep.RegionHeld3
namespace Go.Proofs.Ytkldgcgijkfpaaa
open Go.RowKit
open Num Quick
attribute [local go_sem] run_store_fl run_store_cx

theorem step_append_cx {ops : Array Oper} {o : Oper} {a : Act} {K : Act → World → Prop} {Q : Exit → Act → World → Prop} {E : Prop} {w : World} (hgd : o.guard = none) (s x : Operand)
    (ho : o.op = .call { callee := .builtin .append, args := #[s, x], argTypes := #[27, 27] }) (base g n c : Nat) (xs : List Value) (hs : a.eval s = .slice (some ⟨g, 0, none⟩) n c) (hown : w.ownsRow base 37 1 (.slice (some ⟨g, 0, none⟩) n c) n xs)
    (B z1 z2 : Nat) (hx : a.eval x = .slice (some ⟨B, 0, none⟩) 1 1) (hc : w.cell? ⟨B, 0, none⟩ = some (.complex .f32 z1 z2)) (hn : n ≤ 100) (hbase : base ≤ w.heap.size)
    (h : ∀ g' cap w', w'.ownsRow base 37 1 (.slice (some ⟨g', 0, none⟩) (n + 1) cap) (n + 1) (xs ++ [.complex .f32 z1 z2]) → w.grownBy w' (some g) → K (a.put o.dst (.slice (some ⟨g', 0, none⟩) (n + 1) cap)) w') :
    if Region.wanted o (yielded ops a.tmps) = true then Oper.wp Try.prog o a w K Q else E := by
  obtain ⟨i, hi, hz, hsz, hb⟩ : ∃ i, Try.prog.info? 37 = some i ∧ i.zero = some (.complex .f32 0 0) ∧ i.size = 1 ∧ i.bytes = 8 := by
    have h := cxInfo
    cases e : Try.prog.info? 37 with
    | none => rw [e] at h; cases h
    | some i =>
      rw [e] at h
      simp only [Option.map_some, Option.some.injEq, Prod.mk.injEq] at h
      exact ⟨i, rfl, h.1, h.2.1, h.2.2⟩
  refine step_append_lies w hgd s x 27 ho base 37 i (.complex .f32 0 0) 1 8 Try.underlying27 hi hz hsz hb rfl (by omega) _ n xs hs hown ⟨B, 0, none⟩ 1 1 [.complex .f32 z1 z2] hx rfl (fun j u hu => ?_) (fun u hu => ?_) (by omega) (by unfold maxLen; omega) (by omega) hbase w.heap.size rfl (fun g' cap w' h1 h2 _ _ => h g' cap w' h1 h2)
  · cases j with
    | zero =>
      simp at hu
      rw [← hu]
      exact hc
    | succ j => simp at hu
  · simp at hu
    rw [hu]
    rfl
theorem ge_cmp {x y : Nat} (hx : Fl .f32 x) (hy : Fl .f32 y) (h : Num.fv .f32 y ≤ Num.fv .f32 x) : (FloatKind.f32.format.order x y == some .gt || FloatKind.f32.format.order x y == some .eq) = true := by
  by_cases c : Num.fv .f32 y < Num.fv .f32 x
  · rw [cmp_gt' hx hy c]; decide
  · rw [cmp_eq' hx hy (by grind)]; decide
set_option maxRecDepth 100000 in
set_option maxHeartbeats 4000000 in
theorem EvenPoints_ok {f : Nat → Nat × Nat} (A : Option Addr) (n c : Nat) (w : World) (hn1 : 2 ≤ n) (hn2 : n ≤ 7) (hf : ∀ i, i < n → Cb ((2 : Nat) : Rat) (f i)) (hl : 1 / 16 ≤ Num.fv .f32 (lsum f n)) (hA : Rd w w.heap.size 1 A n ((List.range n).map (fun i => cxv (f i)))) :
    Calls Try.prog 27 #[.slice A n c, .int .i64 9] w fun e w' => ∃ (g : Nat → Nat × Nat) (b c' : Nat), e = .returned (.tuple #[.slice (some ⟨b, 0, none⟩) 9 c', .bool true]) ∧ Evs f g n (Num.fv .f32 (lsum f n)) 8 ∧ w'.ownsRow w.heap.size 37 1 (.slice (some ⟨b, 0, none⟩) 9 c') 9 ((List.range 9).map (fun i => cxv (g i))) ∧ Below w.heap.size w w' := by
  have AP := Lib.hid (arePoints_w f A n c w (by omega) hf hA)
  have WI := Lib.hid (fun w => within_w 9 2 256 w (by omega) (by omega))
  have LO := Lib.hid (longOfLine_ok A c w (show (2 : Nat) ≤ 16 by omega) (show 1 ≤ n by omega) (show n ≤ 64 by omega) (show 3 * 2 * n ≤ 256 by omega) hf hA)
  have LN : Hid (Lng f n (lsum f n)) := by
    have LS := lsum_ok (show (2 : Nat) ≤ 16 by omega) (show 3 * 2 * n ≤ 256 by omega) hf (n - 1) (by omega)
    rw [show n - 1 + 1 = n by omega] at LS
    refine Lib.hid ⟨LS.1, hl, ?_, ?_⟩
    · have h1 := LS.2.2.1
      have h2 := Rat.natCast_le_natCast.2 (show 3 * 2 * (n - 1) ≤ 60 by omega)
      have e : ((60 : Nat) : Rat) = 60 := rfl
      rw [e] at h2
      exact Rat.le_trans h1 h2
    · have h1 := LS.2.2.2.1
      have h2 : ((n - 1 : Nat) : Rat) ≤ ((6 : Nat) : Rat) := Rat.natCast_le_natCast.2 (by omega)
      have e : ((6 : Nat) : Rat) = 6 := rfl
      rw [e] at h2
      unfold InR at *
      generalize ((n - 1 : Nat) : Rat) = d at *
      clear LS
      unfold del at *
      constructor <;> grind
  have HP := Lib.hid (pcs_of hf)
  have m16 : ((2 : Nat) : Rat) ≤ ((16 : Nat) : Rat) := Rat.natCast_le_natCast.2 (by omega)
  have PC : Hid (∀ k, k + 1 < n → Piece (f k) (f (k + 1)) (pcw (f k) (f (k + 1)))) := Lib.hid fun k hk => pcw_ok ((hf k (by omega)).mono m16) ((hf (k + 1) hk).mono m16)
  have HA := Lib.hid hA
  have HF := Lib.hid hf
  clear hA hf m16 hl
  obtain ⟨l, el⟩ : ∃ l, lsum f n = l := ⟨_, rfl⟩
  rw [el] at LO LN ⊢
  clear el
  have IF := Lib.hid (fun w => isFinite_num LN.out.fin w)
  have hg : (FloatKind.f32.format.order l 0 == some .gt) = true := by
    rw [cmp_gt' LN.out.fin zero_fin.1 (by
      have h0 := zero_fin.2
      have := LN.out.lo
      show Num.fv .f32 0 < Num.fv .f32 l
      rw [h0]
      grind)]
    decide
  go_enter Try.func27, Try.ntmps27
  go_wp2_with fail
  refine AP.out.mono ?_
  rintro e w1 ⟨rfl, hw1⟩
  obtain rfl := hw1.symm
  clear AP
  have hn2' : ¬ (n : Int) < 2 := by omega
  go_wp2_with fail
  refine (WI.out _).mono ?_
  rintro e w1 ⟨rfl, hw1⟩
  obtain rfl := hw1.symm
  clear WI
  go_wp2_with fail
  refine LO.out.mono ?_
  rintro e w1 ⟨rfl, hb1⟩
  clear LO
  go_wp2_with fail
  refine (IF.out _).mono ?_
  rintro e w2 ⟨rfl, hw1⟩
  obtain rfl := hw1.symm
  clear IF
  obtain ⟨v, ev⟩ : ∃ v, v = w1.alloc (.cells #[] 37) := ⟨_, rfl⟩
  have V1 : Hid (Below w.heap.size w v) := by rw [ev]; exact Lib.hid (hb1.alloc hb1.size _)
  have O1 : Hid (v.ownsRow w.heap.size 37 1 (.slice (some ⟨w1.heap.size, 0, none⟩) 0 0) 0 (([] : List (Nat × Nat)).map cxv)) := by
    rw [ev]
    exact Lib.hid ((Blk.new w1 _ _).own (n := 0) (size := 1) hb1.size rfl (by unfold maxLen; omega))
  have EV := Lib.hid ev
  clear ev hb1
  go_wp2
  rw [← EV.out]
  clear EV
  obtain ⟨g0, eg0⟩ : ∃ g, w1.heap.size = g := ⟨_, rfl⟩
  rw [eg0] at O1 ⊢
  clear eg0
  have w8 : IntKind.i64.wrap (8 : Int) = 8 := by decide
  go_loopw [7, 39] (fun so sk wr => ∃ (L : List (Nat × Nat)) (k g c' : Nat), sk = .int .i64 (k : Int) ∧ k ≤ 8 ∧ so = .slice (some ⟨g, 0, none⟩) k c' ∧ Hid (EvL f n l k L) ∧ Hid (wr.ownsRow w.heap.size 37 1 (.slice (some ⟨g, 0, none⟩) k c') k (L.map cxv)) ∧ Hid (Below w.heap.size w wr)) (fun _ sk _ => 8 - (intOf sk).toNat)
  case atStart => exact ⟨[], 0, g0, 0, rfl, by omega, rfl, Lib.hid ⟨rfl, fun j hj => absurd hj (by omega)⟩, O1, V1⟩
  case round =>
    clear O1 V1
    obtain ⟨L, k, g, c', rfl, hk, rfl, EL, O, V⟩ := hrel
    by_cases hlt : k < 8
    · have hki : (k : Int) < 8 := by omega
      obtain ⟨q, q1, fq, vq⟩ := step8 k hlt
      obtain ⟨x0, x1, S0⟩ := start_ex (f := f) hn1 hlt LN.out.fin (by have := LN.out.lo; grind) LN.out.hi fq vq
      have S0 := Lib.hid S0
      have P0 := PC.out 0 (by omega)
      obtain ⟨b, off, eA, hbb, hc⟩ := (HA.out.below V.out).2 (by omega)
      have c0 := hc 0 _ (range_map_get (fun i => cxv (f i)) (show 0 < n by omega))
      have c1 := hc 1 _ (range_map_get (fun i => cxv (f i)) (show 1 < n by omega))
      have hn0 : (0 : Int) < (n : Int) := by omega
      have hn1' : (1 : Int) < (n : Int) := by omega
      obtain ⟨r0, er0⟩ : ∃ r, pcw (f 0) (f 1) = r := ⟨_, rfl⟩
      have P0 : Piece (f 0) (f 1) r0 := by rw [← er0]; exact P0
      have R0 := Lib.hid er0
      obtain ⟨u, t, u1, t1, lo, _⟩ := P0.words
      obtain ⟨p0, ep0⟩ : ∃ p, f 0 = p := ⟨_, rfl⟩
      obtain ⟨p1, ep1⟩ : ∃ p, f 1 = p := ⟨_, rfl⟩
      rw [ep0] at c0 u1 t1
      rw [ep1] at c1 u1 t1
      obtain ⟨a1, a2⟩ := p0
      obtain ⟨b1, b2⟩ := p1
      unfold cxv at c0 c1
      simp only [Nat.add_zero] at c0 c1 u1 t1
      have SU := Lib.hid (fun w => subtract_w u1 t1 w)
      have LOw := Lib.hid lo
      have k1 := rInt32 (k : Int)
      have k2 := rInt32 8
      have k3 := r32 q1
      have k4 := r32 x1
      clear hc u1 t1 lo P0 ep0 ep1 er0 q1 fq vq x1
      subst eA
      go_wp2
      go_quiet (first
        | (go_at_call 51; with_reducible exact Calls.quiet_of_same (SU.out _))
        | (go_at_call 18; with_reducible exact Calls.quiet_of_same (LOw.out _)))
      generalize hw : World.drewN wr _ = w6
      have D6 : Below wr.heap.size wr w6 := by rw [← hw]; exact ⟨rfl, rfl, rfl, Nat.le_refl _, fun _ _ => rfl⟩
      have O6 := Lib.hid (own_below O.out D6)
      have V6 := Lib.hid (V.out.trans (D6.mono V.out.size))
      clear hw c0 c1 V O D6 SU LOw k1 k2 k3 k4
      go_wp2
      obtain ⟨wo, ewo⟩ : ∃ x, w6 = x := ⟨_, rfl⟩
      rw [ewo] at O6 V6 ⊢
      clear ewo
      go_loopw [9, 10, 11] (fun sx si sw wk => ∃ x i r : Nat, sx = .float .f32 x ∧ si = .int .i64 (i : Int) ∧ i ≤ 6 ∧ sw = .float .f32 r ∧ Hid (pcw (f i) (f (i + 1)) = r) ∧ Hid (EvS f n (Num.fv .f32 l * ((k : Rat) / 8)) i x) ∧ Hid (wk.ownsRow w.heap.size 37 1 (.slice (some ⟨g, 0, none⟩) k c') k (L.map cxv)) ∧ Hid (Below w.heap.size w wk)) (fun _ si _ _ => n - (intOf si).toNat)
      case atStart => exact ⟨x0, 0, r0, rfl, rfl, by omega, rfl, R0, S0, O6, V6⟩
      case round =>
        clear O6 V6 R0 S0
        obtain ⟨x, i, r, rfl, rfl, hi6, rfl, R, S, O, V⟩ := hrel
        have hiI : (i : Int) + 1 < (n : Int) := by have := S.out.hi; omega
        have Pi := PC.out i S.out.hi
        rw [R.out] at Pi
        by_cases hge : Num.fv .f32 r ≤ Num.fv .f32 x
        · have hcmp := ge_cmp S.out.fin Pi.fin hge
          have h2 : i + 2 < n := by
            rcases Nat.lt_or_ge (i + 2) n with c | c
            · exact c
            · exfalso
              have := S.out.stop LN.out hn2 hlt (by have := S.out.hi; omega)
              unfold pl at this
              rw [R.out] at this
              grind
          have h2I : (i : Int) + 2 < (n : Int) := by omega
          have wi2 : IntKind.i64.wrap ((i : Int) + 2) = (i : Int) + 2 := IntWalk.i64_in _ (by omega)
          obtain ⟨y, y1, SY⟩ := S.out.step HP.out (by rw [R.out]; exact Pi.fin) h2 (by rw [R.out]; exact hge)
          rw [R.out] at y1
          obtain ⟨j, hj⟩ : ∃ j, i + 1 = j := ⟨_, rfl⟩
          obtain ⟨m, hm⟩ : ∃ m, j + 1 = m := ⟨_, rfl⟩
          have hj1 : (i : Int) + 1 = (j : Int) := by omega
          have hm1 : (j : Int) + 1 = (m : Int) := by omega
          have wj : IntKind.i64.wrap (j : Int) = (j : Int) := IntWalk.i64_in _ (by omega)
          have wm : IntKind.i64.wrap (m : Int) = (m : Int) := IntWalk.i64_in _ (by omega)
          have bj0 : (0 : Int) ≤ (j : Int) := by omega
          have bj : (j : Int) < (n : Int) := by omega
          have bm0 : (0 : Int) ≤ (m : Int) := by omega
          have bm : (m : Int) < (n : Int) := by omega
          have hj6 : j ≤ 6 := by omega
          rw [hj] at SY
          have SY := Lib.hid SY
          have PJ := PC.out j (by omega)
          rw [hm] at PJ
          obtain ⟨b, off, eA, hbb, hc⟩ := (HA.out.below V.out).2 (by omega)
          have cJ := hc j _ (range_map_get (fun i => cxv (f i)) (show j < n by omega))
          have cM := hc m _ (range_map_get (fun i => cxv (f i)) (show m < n by omega))
          obtain ⟨rj, erj⟩ : ∃ r, pcw (f j) (f m) = r := ⟨_, rfl⟩
          rw [erj] at PJ
          have RJ : Hid (pcw (f j) (f (j + 1)) = rj) := Lib.hid (by rw [hm]; exact erj)
          obtain ⟨u, t, u1, t1, lo, _⟩ := PJ.words
          obtain ⟨p0, ep0⟩ : ∃ p, f j = p := ⟨_, rfl⟩
          obtain ⟨p1, ep1⟩ : ∃ p, f m = p := ⟨_, rfl⟩
          rw [ep0] at cJ u1 t1
          rw [ep1] at cM u1 t1
          obtain ⟨a1, a2⟩ := p0
          obtain ⟨b1, b2⟩ := p1
          unfold cxv at cJ cM
          simp only at cJ cM u1 t1
          have SU := Lib.hid (fun w => subtract_w u1 t1 w)
          have LOw := Lib.hid lo
          have k1 := r32 y1
          have HJ := Lib.hid hj
          clear hc u1 t1 lo PJ ep0 ep1 erj y1 hj hm Pi hge S R h2
          cases eA
          go_wp2
          go_quiet (first
            | (go_at_call 51; with_reducible exact Calls.quiet_of_same (SU.out _))
            | (go_at_call 18; with_reducible exact Calls.quiet_of_same (LOw.out _)))
          generalize hw : World.drewN wr _ = w7
          have D7 : Below wr.heap.size wr w7 := by rw [← hw]; exact ⟨rfl, rfl, rfl, Nat.le_refl _, fun _ _ => rfl⟩
          have O7 := Lib.hid (own_below O.out D7)
          have V7 := Lib.hid (V.out.trans (D7.mono V.out.size))
          clear hw cJ cM V O D7 SU LOw k1
          go_wp2
          go_roundw
          case rel => exact ⟨y, j, rj, rfl, rfl, hj6, rfl, RJ, SY, O7, V7⟩
          case measure => have := HJ.out; simp [intOf]; omega
        · have hltx : Num.fv .f32 x < Num.fv .f32 r := by grind
          have hcmp1 := (lt_cmp S.out.fin Pi.fin hltx).2.1
          have hcmp2 := (lt_cmp S.out.fin Pi.fin hltx).2.2
          have hpos : (FloatKind.f32.format.order r 0 == some .gt) = true := by
            rw [cmp_gt' Pi.fin zero_fin.1 (by
              have h0 := zero_fin.2
              have := S.out.nn
              show Num.fv .f32 0 < Num.fv .f32 r
              rw [h0]
              grind)]
            decide
          have hpl : Num.fv .f32 x < pl f i := by unfold pl; rw [R.out]; exact hltx
          obtain ⟨u, t, p, m1, m2, z1, z2, u1, t1, p1, q1, q2, s1, s2, EP, fz1, fz2⟩ := point_ex S.out HF.out hpl
          have NX := Lib.hid (EL.out.next S.out hn2 EP fz1 fz2)
          obtain ⟨j, hj⟩ : ∃ j, i + 1 = j := ⟨_, rfl⟩
          have hj1 : (i : Int) + 1 = (j : Int) := by omega
          have wj : IntKind.i64.wrap (j : Int) = (j : Int) := IntWalk.i64_in _ (by omega)
          have bj0 : (0 : Int) ≤ (j : Int) := by omega
          have bj : (j : Int) < (n : Int) := by omega
          have bi : (i : Int) < (n : Int) := by omega
          rw [R.out] at p1
          rw [hj] at u1 t1
          obtain ⟨b, off, eA, hbb, hc⟩ := (HA.out).2 (by omega)
          have cI := hc i _ (range_map_get (fun i => cxv (f i)) (show i < n by omega))
          have cJ := hc j _ (range_map_get (fun i => cxv (f i)) (show j < n by omega))
          obtain ⟨p0, ep0⟩ : ∃ p, f i = p := ⟨_, rfl⟩
          obtain ⟨p2', ep1⟩ : ∃ p, f j = p := ⟨_, rfl⟩
          rw [ep0] at cI u1 t1 s1 s2
          rw [ep1] at cJ u1 t1
          obtain ⟨a1, a2⟩ := p0
          obtain ⟨b1, b2⟩ := p2'
          unfold cxv at cI cJ
          simp only at cI cJ u1 t1 s1 s2
          have SU := Lib.hid (fun w => subtract_w u1 t1 w)
          have SC := Lib.hid (fun w => scale_w q1 q2 w)
          have AD := Lib.hid (fun w => add_w s1 s2 w)
          have k1 := r32 p1
          clear hc u1 t1 ep0 ep1 p1 q1 q2 s1 s2 hj Pi hge S R EP fz1 fz2 hpl hltx EL
          cases eA
          have CIJ := Lib.hid (And.intro cI cJ)
          clear cI cJ
          have SPH : Hid (∀ w', Below w.heap.size w w' → w'.cell? ⟨b, off + i, none⟩ = some (.complex .f32 a1 a2) ∧ w'.cell? ⟨b, off + j, none⟩ = some (.complex .f32 b1 b2) ∧ Below w.heap.size w w') := Lib.hid fun w' hb => ⟨(hb.cell (p := ⟨b, off + i, none⟩) hbb).trans CIJ.out.1, (hb.cell (p := ⟨b, off + j, none⟩) hbb).trans CIJ.out.2, hb⟩
          have D1 : Below wr.heap.size wr wr.drew := (Below.refl _ _).drew
          have B1 := Lib.hid (V.out.trans (D1.mono V.out.size))
          obtain ⟨wa, ewa⟩ : ∃ x, x = (wr.alloc (.cells #[.complex .f32 z1 z2] 37)).drew := ⟨_, rfl⟩
          have D2 : Below wr.heap.size wr wa := by rw [ewa]; exact ((Below.refl _ _).alloc (Nat.le_refl _) _).drew
          have B2 := Lib.hid (V.out.trans (D2.mono V.out.size))
          have O2 := Lib.hid (own_below O.out D2)
          have C2 : Hid (wa.cell? ⟨wr.heap.size, 0, none⟩ = some (.complex .f32 z1 z2)) := by
            rw [ewa]
            exact Lib.hid ((Blk.new wr 37 #[.complex .f32 z1 z2]).drew.cell 0)
          have HW := Lib.hid ewa
          obtain ⟨v1, v2, _⟩ := SPH.out wr V.out
          clear O D1 D2 ewa CIJ
          go_wp2
          go_region_held3 (fun w' => w'.cell? ⟨b, off + i, none⟩ = some (.complex .f32 a1 a2) ∧ w'.cell? ⟨b, off + j, none⟩ = some (.complex .f32 b1 b2) ∧ Below w.heap.size w w')
            (first
              | exact SPH.out _ V.out
              | exact SPH.out _ B1.out
              | exact SPH.out _ (HW.out ▸ B2.out)
              | exact SPH.out _ B2.out
              | exact SPH.out _ V9.out
              | go_keep)
            (first
              | (go_at_call 51; with_reducible refine Calls.mono (SU.out _) ?_; rintro e w5 ⟨rfl, hw5⟩; obtain rfl := hw5.symm)
              | (go_at_call 43; with_reducible refine Calls.mono (SC.out _) ?_; rintro e w5 ⟨rfl, hw5⟩; obtain rfl := hw5.symm)
              | (go_at_call 41; with_reducible refine Calls.mono (AD.out _) ?_; rintro e w5 ⟨rfl, hw5⟩; obtain rfl := hw5.symm)
              | (rw [← HW.out]; refine step_append_cx (by rfl) _ _ (by rfl) w.heap.size g k c' _ (by rfl) O2.out _ z1 z2 (by rfl) C2.out (by omega) B2.out.size ?_; intro g9 c9' w9 ho9 hg9
                 have V9 := Lib.hid (B2.out.grown hg9 B2.out.size (fun k' e => by have := (O2.out.lt k' e).1; omega))))
          have O9 : Hid (w9.ownsRow w.heap.size 37 1 (.slice (some ⟨g9, 0, none⟩) (k + 1) c9') (k + 1) ((L ++ [(z1, z2)]).map cxv)) := by
            rw [List.map_append, List.map_cons, List.map_nil]
            exact Lib.hid ho9
          clear ho9 hg9 V B1 B2 O2 C2 HW SPH SU SC AD v1 v2 k1 hcmp1 hcmp2 hpos
          go_wp2
          go_roundw
          case rel => exact ⟨L ++ [(z1, z2)], k + 1, g9, c9', by go_num, by omega, rfl, NX, O9, V9⟩
          case measure => simp [intOf]; omega
    · obtain rfl : k = 8 := by omega
      obtain ⟨m, hm⟩ : ∃ m, m + 1 = n := ⟨n - 1, by omega⟩
      have hm1 : (n : Int) - 1 = (m : Int) := by omega
      have wm : IntKind.i64.wrap (m : Int) = (m : Int) := IntWalk.i64_in _ (by omega)
      have bm0 : (0 : Int) ≤ (m : Int) := by omega
      have bm : (m : Int) < (n : Int) := by omega
      have h88 : ¬ ((8 : Nat) : Int) < 8 := by omega
      obtain ⟨b, off, eA, hbb, hc⟩ := (HA.out.below V.out).2 (by omega)
      have cM := hc m _ (range_map_get (fun i => cxv (f i)) (show m < n by omega))
      obtain ⟨p0, ep0⟩ : ∃ p, f m = p := ⟨_, rfl⟩
      rw [ep0] at cM
      have EM : Hid (f (n - 1) = p0) := Lib.hid (by rw [show n - 1 = m by omega]; exact ep0)
      obtain ⟨a1, a2⟩ := p0
      unfold cxv at cM
      simp only at cM
      have hE := EL.out.done
      rw [EM.out] at hE
      have hcb := hE.cb hn1 HF.out
      have HE := Lib.hid hE
      have HCB := Lib.hid hcb
      clear hc ep0 hm hE hcb
      subst eA
      go_wp2_with (first
        | (at_builtin; refine wpList_append_one (P := Try.prog) (W := wr) rfl _ _ _ rfl w.heap.size 37 (.complex .f32 0 0) 8 Try.underlying27 cxInfo rfl (some ⟨g, 0, none⟩) 8 c' (L.map cxv) rfl O.out (.complex .f32 a1 a2) wr.heap.size rfl rfl rfl (by unfold maxLen; omega) (by omega) V.out.size ?_; intro A9 c9 w9 ho9 hg9 hd9
           obtain ⟨g9, c9', e9, _, _⟩ := ho9.form (by omega)
           rw [e9] at ho9 ⊢
           have hlo : ∀ k', (Value.slice (some ⟨g, 0, none⟩) 8 c').ownBlock = some k' → w.heap.size ≤ k' := fun k' e => (O.out.lt k' e).1
           have V9 := Lib.hid (V.out.grown hg9 V.out.size (fun k' e => by have := hlo k' e; omega))
           have O9 : Hid (w9.ownsRow w.heap.size 37 1 (.slice (some ⟨g9, 0, none⟩) 9 c9') 9 ((List.range 9).map (fun i => cxv ((L ++ [(a1, a2)]).getD i (0, 0))))) := by
             have h := cx_list (L ++ [(a1, a2)])
             rw [List.length_append, EL.out.1] at h
             have h9 : 8 + [(a1, a2)].length = 9 := rfl
             rw [h9] at h
             rw [← h, List.map_append, List.map_cons, List.map_nil]
             exact Lib.hid ho9
           have IP := Lib.hid (ifPoints_w (fun i => (L ++ [(a1, a2)]).getD i (0, 0)) (some ⟨g9, 0, none⟩) 9 c9' w9 (by omega) HCB.out (Rd.own O9.out))
           clear ho9 hg9 hlo hd9 e9 O V EL cM)
        | (go_at_call 61; refine IP.out.mono ?_; rintro e w5 ⟨rfl, hw5⟩; obtain rfl := hw5.symm)
        | fail)
      try go_wp2
      go_ret2
      exact ⟨_, g9, c9', rfl, HE.out, O9.out, V9.out⟩
end Go.Proofs.Ytkldgcgijkfpaaa

/- Walk: the law FnShapes: it returns true. Conditions: at most 2^20 bytes each (the longer ones apart). -/
import Derived.Test.YtbkacmklgkgamaaQa
import Derived.Test.YtbkacmklgkgamaaQc
import Derived.Deep.RegionHeld3
import Derived.StillTailTactics
namespace Go.Proofs.Ytbkacmklgkgamaa
open Go.RowKit

theorem own_cap4 {w : World} {base g n c : Nat} {e : TypeId} {xs : List Value} (h : w.ownsRow base e 4 (.slice (some ⟨g, 0, none⟩) n c) n xs) : n ≤ c := by
  rcases h.2 with ⟨h', _⟩ | ⟨g', cap, cur, hv, hb, hh, hn, hx, hs, ht⟩
  · simp at h'
  · injection hv with _ _ h3
    omega
theorem below_drewN' {B : Nat} {a w : World} (h : Below B a w) (n : Nat) : Below B a (w.drewN n) := ⟨h.os, h.tape, h.output, h.size, h.block⟩
theorem intInfo' : (Try.prog.info? 3).map (fun i => (i.zero, i.size, i.bytes)) = some (some (.int .i64 0), 1, 8) := by kernel_rfl
set_option maxRecDepth 100000 in
set_option maxHeartbeats 400000 in
theorem lawSh_long (A1 A2 : Option Addr) (n1 c1 n2 c2 : Nat) (w : World) (hn1 : n1 ≤ maxLen) (hn2 : n2 ≤ maxLen) (hbig : ¬ (n1 ≤ 1048576 ∧ n2 ≤ 1048576)) :
    Calls Try.prog 3 #[.slice A1 n1 c1, .slice A2 n2 c2] w fun e w' => e = .returned (.bool true) ∧ Below w.heap.size w w' := by
  have e : (decide (1048576 < n1) || decide (1048576 < n2)) = true := by
    by_cases h : n1 ≤ 1048576
    · have : 1048576 < n2 := by omega
      simp [this]
    · have : 1048576 < n1 := by omega
      simp [this]
  have LC := b10Long_any A1 A2 n1 c1 n2 c2 w hn1 hn2
  rw [e] at LC
  have LCH := Lib.hid LC
  clear LC e
  go_enter Try.func3, Try.ntmps3
  go_wp2_with fail
  refine LCH.out.mono ?_
  rintro e w1 ⟨rfl, rfl⟩
  go_wp2
  go_ret
  exact ⟨rfl, Below.refl _ _⟩
set_option maxRecDepth 100000 in
set_option maxHeartbeats 16000000 in
theorem lawSh_any (A1 A2 : Option Addr) (n1 c1 n2 c2 : Nat) (bs bs2 : List Nat) (w : World) (hn1 : n1 ≤ 1048576) (hn2 : n2 ≤ 1048576) (hc1 : n1 ≤ c1) (hbs : ∀ x ∈ bs, x < 256) (hbs2 : ∀ x ∈ bs2, x < 256) (hA : Rd w w.heap.size 1 A1 n1 (bs.map u8v)) (hA2 : Rd w w.heap.size 1 A2 n2 (bs2.map u8v)) :
    Calls Try.prog 3 #[.slice A1 n1 c1, .slice A2 n2 c2] w fun e w' => e = .returned (.bool true) ∧ Below w.heap.size w w' := by
  have LC := b10Long_any A1 A2 n1 c1 n2 c2 w (by unfold maxLen; omega) (by unfold maxLen; omega)
  rw [show (decide (1048576 < n1) || decide (1048576 < n2)) = false by simp; omega] at LC
  have LCH := Lib.hid LC
  have SC := Lib.hid (B10Shapes_any n1 c1 A1 bs w hn1 hc1 hbs hA)
  have HA2 := Lib.hid hA2
  have HBS2 := Lib.hid hbs2
  clear LC hA hbs hA2 hbs2
  go_enter Try.func3, Try.ntmps3
  go_wp2_with fail
  refine LCH.out.mono ?_
  rintro e w0 ⟨rfl, hw0⟩
  obtain rfl := hw0.symm
  go_wp2_with fail
  refine SC.out.mono ?_
  rintro e w1 ⟨L, M, g, c, rfl, hL4, hok, hM, hB⟩
  obtain ⟨N, eN⟩ : ∃ N, L.length = N := ⟨_, rfl⟩
  rw [eN] at hL4 ⊢
  have EN := Lib.hid eN
  have HM := Lib.hid hM
  have HB1 := Lib.hid hB
  have HOK := Lib.hid hok
  have hzw := hB.size
  clear hok hM hB eN LCH SC
  go_wp2
  go_loopw [6, 41] (fun se si wr => ∃ (k g6 c6 : Nat), k ≤ N ∧ si = .int .i64 (k : Int) ∧ se = .slice (some ⟨g6, 0, none⟩) (k + 1) c6 ∧ Hid (wr.ownsRow w1.heap.size 3 1 (.slice (some ⟨g6, 0, none⟩) (k + 1) c6) (k + 1) ((endsL L k).map iv)) ∧ Below w1.heap.size w1 wr) (fun _ si _ => N - (intOf si).toNat)
  case atStart => exact ⟨0, w1.heap.size, 1, Nat.zero_le _, rfl, rfl, (Blk.new w1 _ _).own (n := 1) (size := 1) (Nat.le_refl _) rfl (by unfold maxLen; omega), (Below.refl _ _).alloc (Nat.le_refl _) _⟩
  case round =>
    obtain ⟨k, g6, c6, hk, rfl, rfl, HE, hb⟩ := hrel
    have HB := Lib.hid hb
    clear hb
    by_cases hlt : k < N
    ·
      -- <<A
      as_aux_lemma =>
        obtain ⟨x, hx⟩ : ∃ x, L[k]? = some x := ⟨_, List.getElem?_eq_getElem (by rw [EN.out]; exact hlt)⟩
        obtain ⟨Q, cq, hs⟩ := HM.out.at_ hx
        have hxo := HOK.out x (List.mem_of_getElem? hx)
        obtain ⟨p1, p2, p3, p4⟩ := okC_parts hxo
        have HXO := Lib.hid hxo
        have HX := Lib.hid hx
        have HMR := Lib.hid (HM.out.below HB.out)
        obtain ⟨b, off, ge, hbb, q0, q1, q2, q3⟩ := HM.out.read.get hs
        obtain ⟨rfl, rfl⟩ : g = b ∧ 0 = off := by
          simp only [Option.some.injEq, Addr.mk.injEq] at ge
          exact ⟨ge.1, ge.2.1⟩
        simp only [Nat.zero_add] at q0 q1 q2 q3
        have RC := HM.out.read.2.2 _ (List.mem_of_getElem? hs)
        have CF : Hid (∀ w', Below w1.heap.size w1 w' → w'.cell? ⟨g, k * 4, none⟩ = some (.string x.nm) ∧ w'.cell? ⟨g, k * 4 + 1, none⟩ = some (.int .i64 (x.W : Int)) ∧ w'.cell? ⟨g, k * 4 + 2, none⟩ = some (.int .i64 (x.H : Int)) ∧ w'.cell? ⟨g, k * 4 + 3, none⟩ = some (.slice Q x.cs.length cq)) := fun w' h =>
          ⟨(h.cell (p := ⟨g, _, none⟩) hbb).trans q0, (h.cell (p := ⟨g, _, none⟩) hbb).trans q1, (h.cell (p := ⟨g, _, none⟩) hbb).trans q2, (h.cell (p := ⟨g, _, none⟩) hbb).trans q3⟩
        have RC' := Lib.hid RC
        obtain ⟨f0, f1, f2, f3⟩ := CF.out wr HB.out
        have hlc : x.cs.length ≤ maxLen := by unfold maxLen; omega
        have ST := StoreShape_any x.nm (x.W : Int) (x.H : Int) Q x.cs.length cq x.cs wr (by unfold maxLen; omega) rfl ((RC'.out.below HB.out).more HB.out.size)
        rw [if_pos (show okSh x.nm (x.W : Int) (x.H : Int) x.cs.length = true from hxo), Int.toNat_natCast, Int.toNat_natCast] at ST
        obtain ⟨tw, etw⟩ : ∃ t, txt (wholeL x.nm x.W x.H x.cs) = t := ⟨_, rfl⟩
        have NTW : Hid (nums tw = x.whole) := by rw [← etw]; exact nums_txt (wholeL_lt p1 p2 p3 p4)
        have htw : tw.size = x.whole.length := by rw [← nums_len, NTW.out]
        have hwx := whole_size x
        have hpx := pack_len x.cs
        obtain ⟨lw, elw⟩ : ∃ l, x.whole.length = l := ⟨_, rfl⟩
        rw [elw] at htw hwx
        have ELW := Lib.hid elw
        rw [etw] at ST
        have STH := Lib.hid ST
        have LDC := Lib.hid (fun w' => implLoadShape_any tw w' (by unfold maxLen; omega))
        have PKC := Lib.hid (fun B w' (hB : B ≤ w'.heap.size) (hA : Rd w' B 1 Q x.cs.length (x.cs.map bv)) => PackCells_any x.cs.length Q cq B x.cs w' p4 rfl hB hA)
        obtain ⟨tp, etp⟩ : ∃ t, txt (pack x.cs) = t := ⟨_, rfl⟩
        have NTP : Hid (nums tp = pack x.cs) := by rw [← etp]; exact nums_txt (pack_lt p4)
        have htp : tp.size = (pack x.cs).length := by rw [← nums_len, NTP.out]
        rw [etp] at PKC
        have UPC := Lib.hid (fun w' => UnpackCells_any tp w' (by unfold maxLen; omega))
        clear hs q0 q1 q2 q3 ge hx hxo RC ST etw etp elw
        have HTW := Lib.hid htw
        clear htw
        go_wp2_with fail
        refine STH.out.mono ?_
        rintro e wa ⟨rfl, hba⟩
        have Ba := Lib.hid (HB.out.trans (hba.mono HB.out.size))
        have Va := Lib.hid hba
        clear hba
        go_wp2_with fail
        refine (LDC.out wa).mono ?_
        rintro e wb ⟨r, hr, hbb', hcase⟩
        have hr1 : r = some x := lod_uniq hr ⟨HXO.out, NTW.out.symm⟩
        rcases hcase with ⟨hn, _⟩ | ⟨y, Ay, cy, hy, rfl, hoy⟩
        · rw [hn] at hr1
          cases hr1
        obtain rfl : x = y := by
          rw [hr1] at hy
          exact Option.some.inj hy
        have OY := Lib.hid hoy
        have Bb := Lib.hid (Ba.out.trans (hbb'.mono Ba.out.size))
        have Vb := Lib.hid (Va.out.trans (hbb'.mono Va.out.size))
        have hza := Ba.out.size
        clear hoy hbb' hr hr1 hy f0 f1 f2 f3 LDC STH
        unfold shV
        go_wp2_with (first
          | (refine wpList_store_blk rfl _ _ _ rfl wb.heap.size 0 rfl _ rfl [.string x.nm, .int .i64 (x.W : Int), .int .i64 (x.H : Int), .slice Ay x.cs.length cy] rfl 33 #[.string ⟨#[]⟩, .int .i64 0, .int .i64 0, .slice none 0 0] #[.string x.nm, .int .i64 (x.W : Int), .int .i64 (x.H : Int), .slice Ay x.cs.length cy] (Blk.new _ _ _) (by kernel_rfl) (by simp) (by simp [Value.oneCell']) rfl ?_; intro wc kc gc
             have Bc := Lib.hid (below_boxed Bb.out Bb.out.size gc)
             have Vc := Lib.hid (below_boxed Vb.out Vb.out.size gc)
             have Kc := Lib.hid kc
             have OYc := Lib.hid (own_boxed OY.out gc)
             obtain ⟨_, _, _, e3⟩ := CF.out wc Bc.out
             clear kc gc)
          | fail)
        refine (PKC.out w1.heap.size wc Bc.out.size (RC'.out.below Bc.out)).mono ?_
        rintro e wd ⟨rfl, hbd⟩
        have Bd := Lib.hid (Bc.out.trans (hbd.mono Bc.out.size))
        have Vd := Lib.hid (Vc.out.trans (hbd.mono Vc.out.size))
        have Kd := Lib.hid (Kc.out.below hbd Kc.out.lt)
        have OYd := Lib.hid (own_below OYc.out hbd)
        clear hbd e3 Kc OYc OY PKC
        go_wp2_with fail
        refine (UPC.out wd).mono ?_
        rintro e we ⟨r, hr, hbe, hcase⟩
        rw [NTP.out] at hr
        have hr1 : r = some x.cs := unp_pack p4 hr
        rcases hcase with ⟨hn, _⟩ | ⟨y, Au, cu, hy, rfl, hou⟩
        · rw [hn] at hr1
          cases hr1
        obtain rfl : x.cs = y := by
          rw [hr1] at hy
          exact Option.some.inj hy
        have Be := Lib.hid (Bd.out.trans (hbe.mono Bd.out.size))
        have Ve := Lib.hid (Vd.out.trans (hbe.mono Vd.out.size))
        have Ke := Lib.hid (Kd.out.below hbe Kd.out.lt)
        have OYe := Lib.hid (own_below OYd.out hbe)
        have OUe := Lib.hid hou
        have hkc : k + 1 ≤ c := by
          have h1 := own_cap4 HM.out.own
          have := EN.out
          omega
        have j1 : (0 : Int) ≤ (k : Int) := by omega
        have j2 : (k : Int) ≤ (k : Int) + 1 := by omega
        have j3 : (k : Int) + 1 ≤ (c : Int) := by omega
        have j4 : (k : Int) ≤ (c : Int) := by omega
        have j5 : IntKind.i64.wrap ((k : Int) + 1) = (k : Int) + 1 := wrap_i64 (by omega) (by omega)
        have j6 : (0 : Int) ≤ (k : Int) + 1 := by omega
        have j7 : ¬ c = k := by omega
        have SB : Hid (∀ w', Below we.heap.size we w' → w'.cell? ⟨wb.heap.size, 0, none⟩ = some (.string x.nm) ∧ w'.cell? ⟨wb.heap.size, 1, none⟩ = some (.int .i64 (x.W : Int)) ∧ w'.cell? ⟨wb.heap.size, 2, none⟩ = some (.int .i64 (x.H : Int)) ∧ w'.cell? ⟨wb.heap.size, 3, none⟩ = some (.slice Ay x.cs.length cy) ∧ w'.cell? ⟨g, k * 4 + 3, none⟩ = some (.slice Q x.cs.length cq) ∧ Below we.heap.size we w') := fun w' h => by
          have lt := Ke.out.lt
          have q := CF.out w' (Be.out.trans (h.mono Be.out.size))
          exact ⟨(h.cell lt).trans (Ke.out.cell 0), (h.cell lt).trans (Ke.out.cell 1), (h.cell lt).trans (Ke.out.cell 2), (h.cell lt).trans (Ke.out.cell 3), q.2.2.2, h⟩
        have VC : Hid (∀ w', Calls Try.prog 12 #[.agg #[.string x.nm, .int .i64 (x.W : Int), .int .i64 (x.H : Int), .slice Ay x.cs.length cy]] w' fun e w'' => e = .returned (.bool true) ∧ Below w'.heap.size w' w'') := fun w' => by
          have := ValidShape_any x.nm (x.W : Int) (x.H : Int) Ay x.cs.length cy w' (by unfold maxLen; omega)
          rwa [show okSh x.nm (x.W : Int) (x.H : Int) x.cs.length = true from HXO.out] at this
        have SSC : Hid (∀ w5, Below we.heap.size we w5 → Calls Try.prog 13 #[.slice (some ⟨w5.heap.size, 0, none⟩) 1 1, .slice (some ⟨g, k * 4, none⟩) 1 (c - k)] (w5.alloc (.cells #[.string x.nm, .int .i64 (x.W : Int), .int .i64 (x.H : Int), .slice Ay x.cs.length cy] 33)) fun e w6 => e = .returned (.bool true) ∧ Below we.heap.size we w6) := fun w5 h => by
          obtain ⟨v5, ev5⟩ : ∃ v5, v5 = w5.alloc (.cells #[.string x.nm, .int .i64 (x.W : Int), .int .i64 (x.H : Int), .slice Ay x.cs.length cy] 33) := ⟨_, rfl⟩
          have hk5 : Blk v5 w5.heap.size 33 #[.string x.nm, .int .i64 (x.W : Int), .int .i64 (x.H : Int), .slice Ay x.cs.length cy] := by rw [ev5]; exact Blk.new _ _ _
          have hb5 : Below we.heap.size we v5 := by rw [ev5]; exact h.alloc h.size _
          rw [← ev5]
          have q := CF.out v5 (Be.out.trans (hb5.mono Be.out.size))
          have z := hb5.size
          have ze := Be.out.size
          refine (SameShapes_same _ _ 1 1 (c - k) [⟨x.nm, (x.W : Int), (x.H : Int), Ay, cy, x.cs⟩] [⟨x.nm, (x.W : Int), (x.H : Int), Q, cq, x.cs⟩] v5 (by unfold maxLen; omega) (fun s hs => ?_) rfl
            (shr_one (hk5.cell 0) (hk5.cell 1) (hk5.cell 2) (hk5.cell 3) hk5.lt (Rd.own (own_below OYe.out hb5)))
            (shr_one q.1 q.2.1 q.2.2.1 q.2.2.2 (by omega) ((RC'.out.below (Be.out.trans (hb5.mono Be.out.size))).more (by omega)))).mono ?_
          · simp at hs
            subst hs
            exact ⟨by show x.nm.size ≤ maxLen; unfold maxLen; omega, hlc⟩
          · rintro e w6 ⟨rfl, hb6⟩
            exact ⟨rfl, hb5.trans (hb6.mono z)⟩
        clear hbe hou hr hr1 hy UPC
        go_wp2
        go_region_held3 (fun w' => w'.cell? ⟨wb.heap.size, 0, none⟩ = some (.string x.nm) ∧ w'.cell? ⟨wb.heap.size, 1, none⟩ = some (.int .i64 (x.W : Int)) ∧ w'.cell? ⟨wb.heap.size, 2, none⟩ = some (.int .i64 (x.H : Int)) ∧ w'.cell? ⟨wb.heap.size, 3, none⟩ = some (.slice Ay x.cs.length cy) ∧ w'.cell? ⟨g, k * 4 + 3, none⟩ = some (.slice Q x.cs.length cq) ∧ Below we.heap.size we w')
          (first | exact SB.out _ (Below.refl _ _).drew | exact SB.out _ ((Below.refl _ _).drew.trans hb5) | exact SB.out _ (((Below.refl _ _).drew.trans hb5).alloc ((Below.refl _ _).drew.trans hb5).size _) | exact SB.out _ hb6)
          (first
            | (go_at_call 12; refine (VC.out we.drew).mono ?_; rintro e w5 ⟨rfl, hb5⟩)
            | (go_at_call 13; refine (SSC.out w5 ((Below.refl _ _).drew.trans hb5)).mono ?_; rintro e w6 ⟨rfl, hb6⟩))
        have B6 := Lib.hid hb6
        have HE6 := Lib.hid (own_below HE.out (Ve.out.trans (hb6.mono Ve.out.size)))
        have UE := Lib.hid (Rd.own OUe.out)
        obtain ⟨lc, elc⟩ : ∃ lc, x.cs.length = lc := ⟨_, rfl⟩
        have ELC := Lib.hid elc
        have hl256 : lc ≤ 256 := by rw [← elc]; exact p4
        rw [elc] at UE RC' CF ⊢
        clear elc
        clear hb5 hb6 SSC VC SB Ke Kd OYe OYd OUe Va Vb Vc Vd Ba Bb Bc Bd HE Ve
        go_wp2
        go_loopw [116] (fun si wr => ∃ j : Nat, j ≤ lc ∧ si = .int .i64 (j : Int) ∧ Hid (wr.ownsRow w1.heap.size 3 1 (.slice (some ⟨g6, 0, none⟩) (k + 1) c6) (k + 1) ((endsL L k).map iv)) ∧ Below we.heap.size we wr) (fun si _ => lc - (intOf si).toNat)
        case atStart => exact ⟨0, Nat.zero_le _, rfl, HE6, B6.out⟩
        case round =>
          clear HE6 B6
          obtain ⟨j, hj, rfl, HEq, hb⟩ := hrel
          have Bq := Lib.hid hb
          by_cases hjl : j < lc
          · obtain ⟨bu, ou, rfl, hbu, hcu⟩ := UE.out.2 (by omega)
            obtain ⟨bq, oq, rfl, hbq, hcq⟩ := RC'.out.2 (by omega)
            obtain ⟨v, hv⟩ : ∃ v, x.cs[j]? = some v := ⟨_, List.getElem?_eq_getElem (by rw [ELC.out]; exact hjl)⟩
            have ev : (x.cs.map bv)[j]? = some (.bool v) := by rw [List.getElem?_map, hv]; rfl
            have u1 : wr.cell? ⟨bu, ou + j, none⟩ = some (.bool v) := (hb.cell hbu).trans (hcu _ _ ev)
            have hbw : Below w1.heap.size w1 wr := Be.out.trans (hb.mono Be.out.size)
            have u2 : wr.cell? ⟨bq, oq + j, none⟩ = some (.bool v) := (hbw.cell hbq).trans (hcq _ _ ev)
            obtain ⟨_, _, _, u3⟩ := CF.out wr hbw
            have i1 : (j : Int) < (lc : Int) := by omega
            clear hcu hcq ev hv hbw hb
            go_wp2
            go_big_quiet (fail)
            have Bn := Lib.hid (below_drewN' Bq.out nq)
            have HEn : Hid ((World.drewN wr nq).ownsRow w1.heap.size 3 1 (.slice (some ⟨g6, 0, none⟩) (k + 1) c6) (k + 1) ((endsL L k).map iv)) := HEq.out
            clear u1 u2 u3 Bq HEq
            generalize World.drewN wr nq = wn at *
            go_wp2
            go_roundw
            case rel => exact ⟨j + 1, by omega, by go_num, HEn, Bn.out⟩
            case measure => simp [intOf]; omega
          · obtain rfl : lc = j := by omega
            obtain ⟨ek, eek⟩ : ∃ e, (catR (L.take k)).length = e := ⟨_, rfl⟩
            have hek : ek ≤ 4400 := by
              have h1 := catR_len_le (L := L.take k) (fun y hy => HOK.out y (List.mem_of_mem_take hy))
              have h2 : (L.take k).length ≤ 4 := by rw [List.length_take]; have := EN.out; omega
              omega
            have ce : wr.cell? ⟨g6, k, none⟩ = some (.int .i64 (ek : Int)) := by
              rw [HEq.out.cellAt _ (by omega), List.getElem?_map, endsL_get (Nat.le_refl _), eek]
              rfl
            have htw2 : (tw.size : Int) ≤ 1100 := by have := HTW.out; omega
            have hte : ((ek : Int) + (tw.size : Int)) = ((catR (L.take (k + 1))).length : Int) := by
              rw [catR_succ HX.out, List.length_append, HTW.out, ← ELW.out, ← eek]
              omega
            have HTE := Lib.hid hte
            have hzq := hb.size
            have hze := Be.out.size
            have Bq' := Lib.hid (Be.out.trans (hb.mono Be.out.size))
            have hk1 : (k : Int) + 1 - 1 = (k : Int) := by omega
            clear hte hb eek Bq
            go_wp2_with (at_builtin; refine wpList_append_one (W := wr) rfl _ _ _ rfl w1.heap.size 3 (.int .i64 0) 8 Try.underlying26 intInfo' rfl (some ⟨g6, 0, none⟩) (k + 1) c6 _ rfl HEq.out _ _ rfl (by simp) rfl (by unfold maxLen; omega) (by omega) (by omega) ?_; intro A7 c7 w7 ho7 hg7 hd7)
            obtain ⟨g7, c7', e7, _, _⟩ := ho7.form (by omega)
            injection e7 with e7 e7b e7c
            subst e7
            have hrow : (endsL L k).map iv ++ [.int .i64 ((ek : Int) + (tw.size : Int))] = (endsL L (k + 1)).map iv := by
              rw [endsL_succ, List.map_append, HTE.out]
              rfl
            rw [hrow] at ho7
            have B7 := Lib.hid (Bq'.out.grown hg7 Bq'.out.size (fun j e => (HEq.out.lt j e).1))
            go_roundw
            case rel => exact ⟨k + 1, g7, c7, by omega, by go_num, rfl, ho7, B7.out⟩
            case measure => simp [intOf]; omega
      -- >>A
    · obtain rfl : N = k := by omega
      have SAC := Lib.hid (fun w' (h : Below w1.heap.size w1 w') => implStoreShapes_any (some ⟨g, 0, none⟩) N c M w' (by unfold maxLen; omega) (HM.out.fits HOK.out) (by have := (HM.out.read.below h).more h.size; rwa [EN.out] at this))
      rw [stT_ct HM.out.ct HOK.out (by have := EN.out; omega)] at SAC
      obtain ⟨ta, eta⟩ : ∃ t, txt (catR L) = t := ⟨_, rfl⟩
      have NTA : Hid (nums ta = catR L) := by rw [← eta]; exact nums_txt (catR_lt HOK.out)
      have hta : (catR L).length = ta.size := by rw [← nums_len, NTA.out]
      have hla := catR_len_le HOK.out
      have hla2 := EN.out
      rw [eta] at SAC
      have RAC := Lib.hid (fun w' => implRecover_any ta w' (by unfold maxLen; omega))
      clear eta
      go_wp2_with fail
      refine (SAC.out wr HB.out).mono ?_
      rintro e wa ⟨rfl, hba⟩
      have Ba := Lib.hid (HB.out.trans (hba.mono HB.out.size))
      have HEa := Lib.hid (own_below HE.out hba)
      clear hba
      go_wp2_with fail
      refine (RAC.out wa).mono ?_
      rintro e wb ⟨L', M', g', c', hre, rfl, hm', hbb⟩
      obtain rfl : L = L' := (recE_uniq _ _ _ _ hre (by rw [NTA.out]; exact recE_whole HOK.out (by omega))).symm
      have Bb := Lib.hid (Ba.out.trans (hbb.mono Ba.out.size))
      have HEb := Lib.hid (own_below HEa.out hbb)
      have HM' := Lib.hid hm'
      have hza := Ba.out.size
      have SSC := Lib.hid (fun w' (h : Below wb.heap.size wb w') => SameShapes_same (some ⟨g', 0, none⟩) (some ⟨g, 0, none⟩) N c' c M' M w' (by unfold maxLen; omega) (HM'.out.fits HOK.out) (HM'.out.ct.trans HM.out.ct.symm)
        (by have := (HM'.out.read.below h).more h.size; rwa [EN.out] at this) (by have q := (HM.out.read.below (Bb.out.trans (h.mono Bb.out.size))).more (Nat.le_trans Bb.out.size h.size); rwa [EN.out] at q))
      rw [EN.out, hta]
      have ce : wb.cell? ⟨g6, N, none⟩ = some (.int .i64 (ta.size : Int)) := by
        rw [HEb.out.cellAt _ (by omega), List.getElem?_map, endsL_get (Nat.le_refl _), List.take_of_length_le (by omega), hta]
        rfl
      clear hbb hm' hre SAC RAC
      have i1 : (0 : Int) ≤ (N : Int) := by omega
      have i2 : (N : Int) < (N : Int) + 1 := by omega
      go_wp2_with fail
      refine (SSC.out wb (Below.refl _ _)).mono ?_
      rintro e wc ⟨rfl, hbc⟩
      have Bc := Lib.hid (Bb.out.trans (hbc.mono Bb.out.size))
      have HEc := Lib.hid (own_below HEb.out hbc)
      clear hbc ce SSC
      by_cases h0 : ta.size = 0
      · go_wp2
        go_ret
        exact ⟨rfl, HB1.out.trans (Bc.out.mono hzw)⟩
      · have hlen2 : bs2.length = n2 := by have := HA2.out.len; simpa using this
        obtain ⟨x0, hx0, AT0⟩ := b10At_val A2 n2 c2 0 256 bs2 hlen2 hn2 (by omega) (by omega) (by omega) HBS2.out
        obtain ⟨x1, hx1, AT1⟩ := b10At_val A2 n2 c2 1 256 bs2 hlen2 hn2 (by omega) (by omega) (by omega) HBS2.out
        obtain ⟨x2, hx2, AT2⟩ := b10At_val A2 n2 c2 2 255 bs2 hlen2 hn2 (by omega) (by omega) (by omega) HBS2.out
        have AH0 := Lib.hid AT0
        have AH1 := Lib.hid AT1
        have AH2 := Lib.hid AT2
        clear AT0 AT1 AT2 hlen2
        have Wc := Lib.hid (HB1.out.trans (Bc.out.mono hzw))
        have htas : ta.size ≤ 4400 := by omega
        go_wp2_with fail
        refine (AH0.out w.heap.size wc (HA2.out.below Wc.out)).mono ?_
        rintro e w' ⟨rfl, hw'⟩
        obtain rfl := hw'.symm
        go_wp2_with fail
        refine (AH1.out w.heap.size wc (HA2.out.below Wc.out)).mono ?_
        rintro e w' ⟨rfl, hw'⟩
        obtain rfl := hw'.symm
        obtain ⟨cut, ecut⟩ : ∃ r, (256 * x0 + x1) % ta.size = r := ⟨_, rfl⟩
        have hcut : cut < ta.size := by rw [← ecut]; exact Nat.mod_lt _ (by omega)
        have hcm : (256 * (x0 : Int) + (x1 : Int)) % (ta.size : Int) = (cut : Int) := by rw [← ecut]; simp
        clear ecut
        go_wp2
        rw [hcm]
        clear hx0 hx1 hcm AH0 AH1
        go_loopw [23] (fun si wr => ∃ j : Nat, si = .int .i64 (j : Int) ∧ j < N ∧ (catR (L.take j)).length ≤ cut ∧ wr = wc) (fun si _ => N - (intOf si).toNat)
        case atStart =>
          refine ⟨0, rfl, ?_, by simp [catR], rfl⟩
          rcases Nat.eq_zero_or_pos N with h | h
          · exfalso
            omega
          · exact h
        case round =>
          obtain ⟨j, rfl, hj, hjc, hw⟩ := hrel
          obtain rfl := hw.symm
          obtain ⟨e1, ee1⟩ : ∃ e, (catR (L.take (j + 1))).length = e := ⟨_, rfl⟩
          have he1 : j + 1 = N → e1 = ta.size := fun h => by
            rw [← ee1, List.take_of_length_le (by omega), hta]
          have ce : wc.cell? ⟨g6, j + 1, none⟩ = some (.int .i64 (e1 : Int)) := by
            rw [HEc.out.cellAt _ (by omega), List.getElem?_map, endsL_get (by omega), ee1]
            rfl
          by_cases hle : e1 ≤ cut
          · have hjn : j + 1 < N := by
              rcases Nat.lt_or_ge (j + 1) N with h | h
              · exact h
              · have := he1 (by omega)
                omega
            have HE1 := Lib.hid ee1
            clear ee1 he1
            go_wp2
            go_roundw
            case rel => exact ⟨j + 1, by go_num, hjn, by rw [HE1.out]; exact hle, by first | rfl | trivial⟩
            case measure => simp [intOf]; omega
          · have hRC := recE_cut HOK.out (by omega) (k := j) (cut := cut) (by omega) hjc (by omega)
            obtain ⟨ej, eej⟩ : ∃ e, (catR (L.take j)).length = e := ⟨_, rfl⟩
            have cj : wc.cell? ⟨g6, j, none⟩ = some (.int .i64 (ej : Int)) := by
              rw [HEc.out.cellAt _ (by omega), List.getElem?_map, endsL_get (by omega), eej]
              rfl
            have hlj : (L.take j).length = j := by rw [List.length_take]; omega
            obtain ⟨tc, etc⟩ : ∃ t, ta.extract 0 cut = t := ⟨_, rfl⟩
            have NTC : Hid (nums tc = (catR L).take cut) := by
              show nums tc = (catR L).take cut
              rw [← etc, nums_extract, NTA.out, List.drop_zero, Nat.sub_zero]
            have htc : tc.size ≤ maxLen := by rw [← etc]; simp only [ByteArray.size_extract]; unfold maxLen; omega
            have RCC := Lib.hid (implRecover_any tc wc htc)
            have HRC := Lib.hid hRC
            have ETC := Lib.hid etc
            have EEJ := Lib.hid eej
            have HLJ := Lib.hid hlj
            clear hRC etc eej hlj ee1 he1 htc
            go_wp2_with fail
            rw [ETC.out]
            refine RCC.out.mono ?_
            rintro e wd ⟨L', M2, g2, d2, hre, rfl, hm2, hbd⟩
            obtain rfl : L.take j = L' := (recE_uniq _ _ _ _ hre (by rw [NTC.out]; exact HRC.out)).symm
            have Bd := Lib.hid (Bc.out.trans (hbd.mono Bc.out.size))
            have Wd := Lib.hid (Wc.out.trans (hbd.mono Wc.out.size))
            rw [HLJ.out, EEJ.out]
            have cj2 : wd.cell? ⟨g6, j, none⟩ = some (.int .i64 (ej : Int)) := (hbd.cell (p := ⟨g6, j, none⟩) (HEc.out.lt g6 rfl).2).trans cj
            have hzd := hbd.size
            obtain ⟨v0, d0, CV0, bo0, hb0⟩ := conv_bytes (P := Try.prog) wd 9 22 5 ta Try.underlying9 Try.underlying22 Try.underlying5 (by unfold maxLen; omega) w.heap.size Wd.out.size
            have W0 := Lib.hid (Wd.out.trans (hb0.mono Wd.out.size))
            have BO0 := Lib.hid bo0
            have hd0 : ta.size ≤ d0 := bo0.cap
            clear hre hm2 hbd cj ce bo0 hb0 RCC
            have i3 : (0 : Int) ≤ (j : Int) := by omega
            have i4 : (j : Int) < (N : Int) + 1 := by omega
            obtain ⟨y0, hy0⟩ : ∃ y, (catR L)[cut]? = some y := ⟨_, List.getElem?_eq_getElem (by omega)⟩
            have hy256 := catR_lt HOK.out y0 (List.mem_of_getElem? hy0)
            have cy : v0.cell? ⟨wd.heap.size, cut, none⟩ = some (.int .u8 (y0 : Int)) := BO0.out.cells cut _ (by rw [NTA.out]; unfold bc; rw [List.getElem?_map, hy0]; rfl)
            have fy : v0.frozen? ⟨wd.heap.size, cut, none⟩ = false := (BO0.out.2.2.2.2.2.1 cut (by omega)).2
            have A2C := Lib.hid (AH2.out w.heap.size v0.drew (HA2.out.below W0.out.drew))
            clear hy0 AH2
            have hu1 : IntKind.u8.wrap (1 + (x2 : Int)) = 1 + (x2 : Int) := wrap_u8 (by omega) (by omega)
            obtain ⟨v, ev⟩ : ∃ v, (y0 + (1 + x2)) % 256 = v := ⟨_, rfl⟩
            have hv256 : v < 256 := by rw [← ev]; exact Nat.mod_lt _ (by omega)
            have hu2 : ((y0 : Int) + (1 + (x2 : Int))) % 256 = (v : Int) := by
              rw [← ev]
              simp
            clear ev
            have g0 := grown_set (World.grownBy.refl v0 (some wd.heap.size)) (p := ⟨wd.heap.size, cut, none⟩) rfl (.int .u8 (v : Int))
            have W1 := Lib.hid ((W0.out.trans (below_of_grown g0 W0.out.size (fun k e => by injection e with e; have := Wd.out.size; omega))).drew)
            have BO1 := Lib.hid (BO0.out.set_ (v := v) hcut).drew
            have CV1 := conv_string (P := Try.prog) BO1.out 22 9 5 Try.underlying22 Try.underlying5 Try.underlying9
            have hlt2 : ∀ y ∈ (catR L).set cut v, y < 256 := fun y hy => by
              rcases List.mem_or_eq_of_mem_set hy with h | h
              · exact catR_lt HOK.out y h
              · omega
            obtain ⟨tb, etb⟩ : ∃ t, txt ((nums ta).set cut v) = t := ⟨_, rfl⟩
            have NTB : Hid (nums tb = (catR L).set cut v) := by
              show nums tb = (catR L).set cut v
              rw [← etb, NTA.out]
              exact nums_txt hlt2
            have htb : tb.size = ta.size := by rw [← nums_len, NTB.out, List.length_set, hta]
            rw [etb] at CV1
            have RBC := Lib.hid (implRecover_any tb (v0.setCell ⟨wd.heap.size, cut, none⟩ (.int .u8 (v : Int))).drew (by unfold maxLen; omega))
            have HTB := Lib.hid htb
            clear etb g0 hlt2 htb
            go_wp2
            go_still_tail 10, (by kernel_rfl)
            still_call A2C.out
            repeat still_step
            refine wpStill_nil ?_
            change wpList _ _ _ _ _ v0.drew
            go_wp2_with fail
            refine RBC.out.mono ?_
            rintro e wf ⟨L2, M3, g3, d3, hre, rfl, hm3, hbf⟩
            rw [NTB.out] at hre
            have hkept : j ≤ L2.length := recE_bent HOK.out (by omega) hjc (by omega) hre
            obtain ⟨htk, hle2⟩ := recE_take hre
            rw [List.length_set, hta] at hle2
            have hok2 := hre.1
            have hl28 := hre.2.1
            obtain ⟨m2, em2⟩ : ∃ m, L2.length = m := ⟨_, rfl⟩
            have S2C := implStoreShapes_any (some ⟨g3, 0, none⟩) L2.length d3 M3 wf (by unfold maxLen; omega) (hm3.fits hok2) hm3.read
            rw [stT_ct hm3.ct hok2 hl28, em2] at S2C
            obtain ⟨te, ete⟩ : ∃ t, txt (catR L2) = t := ⟨_, rfl⟩
            rw [ete] at S2C
            have S2H := Lib.hid S2C
            obtain ⟨o, eo⟩ : ∃ o, (catR L2).length = o := ⟨_, rfl⟩
            rw [eo] at htk hle2 ⊢
            rw [em2] at hkept hl28 ⊢
            have BO2 := Lib.hid (BO1.out.below hbf)
            have W2 := Lib.hid (W1.out.trans (hbf.mono W1.out.size))
            have HTK := Lib.hid (show ((nums ta).set cut v).take o = catR L2 by rw [NTA.out]; exact htk)
            have ETE := Lib.hid ete
            clear hre hm3 hbf htk eo em2 ete S2C hok2 CV1 RBC cy fy
            go_wp2_with fail
            refine S2H.out.mono ?_
            rintro e wg ⟨rfl, hbg⟩
            have BO3 := Lib.hid ((BO2.out.below hbg).take (o := o) hle2)
            have CV3 := conv_string (P := Try.prog) BO3.out 22 9 5 Try.underlying22 Try.underlying5 Try.underlying9
            rw [HTK.out, ETE.out] at CV3
            have W3 := Lib.hid (W2.out.trans (hbg.mono W2.out.size))
            clear hbg BO2 S2H
            have k1 : decide (j ≤ m2) = true := decide_eq_true hkept
            have k2 : decide (o ≤ ta.size) = true := decide_eq_true hle2
            have k3 : (0 : Int) ≤ (o : Int) := by omega
            have k4 : (o : Int) ≤ (ta.size : Int) := by omega
            have k5 : (o : Int) ≤ (d0 : Int) := by omega
            have k6 : (te.toList == te.toList) = true := by simp
            go_wp2
            go_ret
            exact ⟨rfl, W3.out⟩
end Go.Proofs.Ytbkacmklgkgamaa

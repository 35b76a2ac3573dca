/- Walk: FitSmall. Conditions: points as the reference draws them, and what a map makes of them. -/
import Derived.Test.YtbpgbplepebcjaaKgm
import Derived.Test.YtbpgbplepebcjaaShelf
import Derived.Test.YtbpgbplepebcjaaApp
namespace Go.Proofs.Ytbpgbplepebcjaa
open Go.RowKit
open Num Quick
attribute [local go_sem] run_store_fl run_store_cx

def zSmall : Array Value := #[.complex .f32 0 0, .complex .f32 0 0, .bool false, .float .f32 0]
section
variable {P : Program}
theorem results_fit {fn : Func} {p a b : Tmp} {ty : TypeId} (h : fn.results = #[.cell p ty, .tmp a, .tmp b]) (tmps : Array Value) (w : World) (g : Nat) (t : TypeId) (cs : Array Value) (d : TypeDesc)
    (hp : tmps.getD p undef = .pointer (some ⟨g, 0, none⟩)) (hg : Blk w g t cs)
    (hu : P.underlying ty = some d) (hd : (match d with | .struct _ | .array _ _ => true | _ => false) = true) (hi : (P.info? ty).map (·.size) = some cs.size) (va vb : Value) (ha : tmps.getD a undef = va) (hb : tmps.getD b undef = vb) :
    (results fn tmps).run P w = .ok (.tuple #[.agg cs, va, vb]) w := by
  have hp' : tmps[p]?.getD undef = .pointer (some ⟨g, 0, none⟩) := by simpa using hp
  have ha' : tmps[a]?.getD undef = va := by simpa using ha
  have hb' : tmps[b]?.getD undef = vb := by simpa using hb
  simp [results, h, hp', ha', hb', asAddr, run_loadVar_row w g t ty cs (0, 0) d hg hu hd hi]
end
theorem fitS_zero (ta tb R : Rat) : FitS ta tb R 0 0 0 0 0 := by
  have e : (((0 : Nat) : Int) : Rat) = 0 := rfl
  refine ⟨c0.1, c0.1, c0.1, ?_, ?_, ?_⟩ <;> rw [c0.2, e] <;> unfold InR <;> constructor <;> grind
set_option maxRecDepth 100000 in
set_option maxHeartbeats 8000000 in
theorem fit_w {N : Nat} {x : Sm} (P : List (Nat × Nat)) (AP AT : Option Addr) (n cP cT : Nat) (w : World) (hN : 1 ≤ N) (hx : x.ok N) (hl : P.length = n) (hn : 1 ≤ n) (hn2 : n ≤ 7) (hP : ∀ p ∈ P, PtOk p)
    (hA : Rd w w.heap.size 1 AP n (P.map cxv)) (hT : Rd w w.heap.size 1 AT n ((P.map (mpP x)).map cxv))
    (hsp : 1 / 32 ≤ sprR (fst_ (P.map (cjP x.fl))) (snd_ (P.map (cjP x.fl))) n n ∨ Flat (P.map (cjP x.fl)) n) :
    Calls Try.prog 38 #[.slice AP n cP, .slice AT n cT, .bool x.fl] w fun e w' => Below w.heap.size w w' ∧
      ((1 / 32 ≤ sprR (fst_ (P.map (cjP x.fl))) (snd_ (P.map (cjP x.fl))) n n ∧ ∃ a b c d l, e = .returned (.tuple #[.agg #[.complex .f32 a b, .complex .f32 c d, .bool x.fl, .float .f32 1065353216], .float .f32 l, .bool true]) ∧ FitOut x a b c d l) ∨
       (Flat (P.map (cjP x.fl)) n ∧ e = .returned (.tuple #[.agg zSmall, .float .f32 0, .bool false]))) := by
  obtain ⟨i0, hi, hi0, hi1, hi2⟩ := info_parts cxInfo
  have HW1 := Lib.hid (fun w' (hb : Below w.heap.size w w') => here_w P AP n cP w' hl hn (by omega) (fun p hp => pt_pl (hP p hp)) ((hA.below hb).more hb.size))
  have hTl : (P.map (mpP x)).length = n := by rw [List.length_map, hl]
  have hTok : ∀ q ∈ P.map (mpP x), GF 5 96 q.1 ∧ GF 5 96 q.2 := fun q hq => by
    obtain ⟨z, hz, rfl⟩ := List.mem_map.1 hq
    have := mpP_spec hx (hP z hz)
    exact ⟨this.g1, this.g2⟩
  have HW2 := Lib.hid (fun w' (hb : Below w.heap.size w w') => here_w (P.map (mpP x)) AT n cT w' hTl hn (by omega) (fun q hq => by
    obtain ⟨z, hz, rfl⟩ := List.mem_map.1 hq
    exact img_pl (mpP_spec hx (hP z hz))) ((hT.below hb).more hb.size))
  have hUok : ∀ q ∈ P.map (cjP x.fl), GF 2 8 q.1 ∧ GF 2 8 q.2 := fun q hq => by
    obtain ⟨z, hz, rfl⟩ := List.mem_map.1 hq
    exact ⟨(hP z hz).1, ((hP z hz).2.flip x.fl).1⟩
  have hUl : (P.map (cjP x.fl)).length = n := by rw [List.length_map, hl]
  have MU := Lib.hid (fun A' c' w' (hR : Rd w' w'.heap.size 1 A' n ((P.map (cjP x.fl)).map cxv)) => mean_c (k := 2) (B := 8) (P.map (cjP x.fl)) A' n c' w' hUl hn (by omega) (by decide) (by decide) (by decide) (by decide) hUok hR)
  have MT := Lib.hid (fun w' (hb : Below w.heap.size w w') => mean_c (k := 5) (B := 96) (P.map (mpP x)) AT n cT w' hTl hn (by omega) (by decide) (by decide) (by decide) (by decide) hTok ((hT.below hb).more hb.size))
  have MW := Lib.hid (fun m o f1 f2 f3 f4 => midw_of hx hl hn hn2 hP (m := m) (o := o) f1 f2 f3 f4)
  have CX := Lib.hid (fun m o hM => fit_ctx hx hl hn hn2 hP (m := m) (o := o) hM hsp)
  have FE := Lib.hid (fun m o hM F F1 F2 F3 F4 a b c H => fit_end hx hl hn hn2 hP (m := m) (o := o) hM (F := F) F1 F2 F3 F4 (a := a) (b := b) (c := c) H)
  obtain ⟨bP, oP, rfl, hbP, hcP⟩ := hA.2 (by omega)
  have CL : Hid (∀ w', Below w.heap.size w w' → Calls Try.prog 82 #[.slice (some ⟨bP, oP, none⟩) n cP] w' fun e w'' => ∃ g cap, e = .returned (.slice (some ⟨g, 0, none⟩) n cap) ∧ w''.ownsRow w'.heap.size 26 1 (.slice (some ⟨g, 0, none⟩) n cap) n (P.map cxv) ∧ Below w'.heap.size w' w'') := fun w' hb => by
    refine (Try.slices_Clone i0 (.complex .f32 0 0) 1 8 hi hi0 hi1 hi2 rfl (by omega) (fun _ => by kernel_rfl) bP oP n cP (P.map cxv) w' (by simp; omega) (by unfold maxLen; omega) (by omega) (fun j u hu => (hb.cell hbP).trans (hcP j u hu)) (fun u hu => by
      simp only [List.mem_map] at hu
      obtain ⟨x, _, rfl⟩ := hu
      rfl)).mono ?_
    rintro e w'' ⟨v', rfl, ho, _, hb'⟩
    obtain ⟨g, cap, rfl, _, _⟩ := ho.form (by omega)
    exact ⟨g, cap, rfl, ho, hb'⟩
  obtain ⟨w0, ew0⟩ : ∃ v, v = w.alloc (.cells #[.complex .f32 0 0, .complex .f32 0 0, .bool false, .float .f32 0] 29) := ⟨_, rfl⟩
  have K0 : Hid (Blk w0 w.heap.size 29 #[.complex .f32 0 0, .complex .f32 0 0, .bool false, .float .f32 0]) := by rw [ew0]; exact Blk.new w _ _
  have B0 : Hid (Below w.heap.size w w0) := by rw [ew0]; exact (Below.refl _ _).alloc (Nat.le_refl _) _
  have EW0 := Lib.hid ew0
  have HL := Lib.hid hl
  have HPO := Lib.hid hP
  have HUO := Lib.hid hUok
  have HTO := Lib.hid hTok
  have HUL := Lib.hid hUl
  have HTL := Lib.hid hTl
  have HXO := Lib.hid hx
  have HTR := Lib.hid hT
  have HAR := Lib.hid hA
  have HSP := Lib.hid hsp
  have h_nn : ((n : Int) == (n : Int)) = true := by simp
  have HCP := Lib.hid hcP
  clear hl hP hUok hTok hUl hTl hx hT hA hsp hcP ew0
  obtain ⟨xa, xb, xc, xd, fl, xs⟩ := x
  simp only at HUO HUL MU HSP MW CX FE ⊢
  go_enter Try.func38, Try.ntmps38
  go_wp2_with fail
  rw [← EW0.out]
  refine (HW1.out _ B0.out).mono ?_
  rintro e w5 ⟨rfl, hw5⟩
  obtain rfl := hw5.symm
  clear hw5 EW0
  go_wp2_with fail
  refine (HW2.out _ B0.out).mono ?_
  rintro e w5 ⟨rfl, hw5⟩
  obtain rfl := hw5.symm
  clear hw5 HW1 HW2
  go_wp2_with fail
  refine (CL.out _ B0.out).mono ?_
  rintro e w1 ⟨gu, cu, rfl, ho1, hb1⟩
  have hz0 : w.heap.size < w0.heap.size := K0.out.lt
  have B1 := Lib.hid (B0.out.trans (hb1.mono B0.out.size))
  have K1 := Lib.hid (K0.out.below hb1 K0.out.lt)
  have O1 : Hid (w1.ownsRow (w.heap.size + 1) 26 1 (.slice (some ⟨gu, 0, none⟩) n cu) n (((P.take 0).map (cjP fl) ++ P.drop 0).map cxv)) := own_base ho1 (by omega)
  clear ho1 hb1 CL K0 B0
  go_wp2
  go_loopw [42] (fun si wr => ∃ i : Nat, i ≤ n ∧ si = .int .i64 (i : Int) ∧ Hid (wr.ownsRow (w.heap.size + 1) 26 1 (.slice (some ⟨gu, 0, none⟩) n cu) n (((P.take i).map (cjP fl) ++ P.drop i).map cxv)) ∧ Hid (Blk wr w.heap.size 29 #[.complex .f32 0 0, .complex .f32 0 0, .bool false, .float .f32 0]) ∧ Hid (Below w.heap.size w wr)) (fun i _ => n - (intOf i).toNat)
  case atStart => exact ⟨0, Nat.zero_le _, rfl, O1, K1, B1⟩
  case round =>
    clear O1 K1 B1
    obtain ⟨i, hi', rfl, HO, HK, HB⟩ := hrel
    by_cases hlt : i < n
    · have hiP : i < P.length := by rw [HL.out]; exact hlt
      have hiI : (i : Int) < (n : Int) := by omega
      cases fl
      · have O2 : Hid (wr.ownsRow (w.heap.size + 1) 26 1 (.slice (some ⟨gu, 0, none⟩) n cu) n (((P.take (i + 1)).map (cjP false) ++ P.drop (i + 1)).map cxv)) := by
          have := HO.out
          rw [cj_no (by omega)] at this
          rw [cj_no (by omega)]
          exact Lib.hid this
        go_wp2
        go_roundw
        case rel => exact ⟨i + 1, by omega, by go_num, O2, HK, HB⟩
        case measure => simp [intOf]; omega
      · have cU : wr.cell? ⟨gu, i, none⟩ = some (.complex .f32 (P.getD i (0, 0)).1 (P.getD i (0, 0)).2) := by
          rw [HO.out.cellAt _ (by omega), List.getElem?_map, cj_get hiP]; rfl
        have fU : wr.frozen? ⟨gu, i, none⟩ = false := HO.out.frozenAt _
        obtain ⟨ho2, hg2⟩ := HO.out.stored i (.complex .f32 (P.getD i (0, 0)).1 (ng32 (P.getD i (0, 0)).2))
        have O2 : Hid ((wr.setCell ⟨gu, i, none⟩ (.complex .f32 (P.getD i (0, 0)).1 (ng32 (P.getD i (0, 0)).2))).ownsRow (w.heap.size + 1) 26 1 (.slice (some ⟨gu, 0, none⟩) n cu) n (((P.take (i + 1)).map (cjP true) ++ P.drop (i + 1)).map cxv)) := by
          rw [← cj_set hiP, List.map_set]; exact Lib.hid ho2
        have hgu := (HO.out.lt gu rfl).1
        have K2 := Lib.hid (HK.out.grown hg2 (own_blk_ne HO.out HK.out (by decide)))
        have B2 := Lib.hid (HB.out.grown hg2 HB.out.size (fun j e => by injection e with e; omega))
        have CJ := Lib.hid (fun w => conj_w (w := w) (P.getD i (0, 0)).1 (P.getD i (0, 0)).2)
        clear ho2 hg2 HO HK HB
        generalize P.getD i (0, 0) = z at *
        obtain ⟨z1, z2⟩ := z
        simp only at cU O2 K2 B2 CJ
        go_wp2_with fail
        refine (CJ.out _).mono ?_
        rintro e w5 ⟨rfl, hw5⟩
        obtain rfl := hw5.symm
        go_wp2
        go_roundw
        case rel => exact ⟨i + 1, by omega, by go_num, O2, K2, B2⟩
        case measure => simp [intOf]; omega
    · obtain rfl : i = n := by omega
      obtain ⟨w2, hw2⟩ : ∃ v, v = wr := ⟨_, rfl⟩
      subst hw2
      have O2 : Hid (w2.ownsRow (w.heap.size + 1) 26 1 (.slice (some ⟨gu, 0, none⟩) i cu) i ((P.map (cjP fl)).map cxv)) := by
        have := HO.out
        rw [List.take_of_length_le (by rw [HL.out]; exact Nat.le_refl _), List.drop_eq_nil_of_le (by rw [HL.out]; exact Nat.le_refl _), List.append_nil] at this
        exact Lib.hid this
      have M1 := Lib.hid (MU.out _ cu w2 (Rd.own O2.out))
      have M2 := Lib.hid (MT.out w2 HB.out)
      clear HO MU MT
      go_wp2_with fail
      refine M1.out.mono ?_
      rintro e w5 ⟨m1, m2, rfl, hw5, fm1, fm2⟩
      obtain rfl := hw5.symm
      have FM1 := Lib.hid fm1
      have FM2 := Lib.hid fm2
      clear hw5 M1 fm1 fm2
      go_wp2_with fail
      refine M2.out.mono ?_
      rintro e w5 ⟨o1, o2, rfl, hw5, fo1, fo2⟩
      obtain rfl := hw5.symm
      have FO1 := Lib.hid fo1
      have FO2 := Lib.hid fo2
      clear hw5 M2 fo1 fo2
      have hM := MW.out (m1, m2) (o1, o2) FM1.out FM2.out FO1.out FO2.out
      obtain ⟨F, F1, F2, F3, F4, ST⟩ := CX.out _ _ hM
      have STH := Lib.hid ST
      have HM := Lib.hid hM
      have HF1 := Lib.hid F1
      have HF2 := Lib.hid F2
      have HF3 := Lib.hid F3
      have HF4 := Lib.hid F4
      have BU := Lib.hid (fun k (hk : k < i) => (O2.out.cellAt k (by omega)).trans (cxv_at HUL.out hk))
      obtain ⟨bT, oT, rfl, hbT, hcT⟩ := HTR.out.2 (by omega)
      have BT := Lib.hid (fun k (hk : k < i) => (HB.out.cell (p := ⟨bT, oT + k, none⟩) hbT).trans (hcT k _ (cxv_at HTL.out hk)))
      have HCT := Lib.hid hcT
      clear MW CX FM1 FM2 FO1 FO2 hM F1 F2 F3 F4 ST hcT
      go_wp2
      go_loop [13, 14, 61] (fun st sb si => ∃ k a b c : Nat, k ≤ i ∧ si = .int .i64 (k : Int) ∧ st = .complex .f32 a b ∧ sb = .float .f32 c ∧ Hid (FitS (Num.fv .f32 xa) (Num.fv .f32 xb) (p2 F) (sprR (fst_ (P.map (cjP fl))) (snd_ (P.map (cjP fl))) i k) k a b c) ∧ Hid (Flat (P.map (cjP fl)) i → Num.fv .f32 c = 0)) (fun _ _ si => i - (intOf si).toNat)
      case atStart => exact ⟨0, 0, 0, 0, Nat.zero_le _, rfl, rfl, rfl, Lib.hid (fitS_zero _ _ _), Lib.hid (fun _ => c0.2)⟩
      case round =>
        obtain ⟨k, a, b, c, hk, rfl, rfl, rfl, HS, HZ⟩ := hrel
        by_cases hlk : k < i
        · obtain ⟨d, e, p, r, W, NX⟩ := STH.out k hlk
          obtain ⟨a', b', c', AC, cc, H', z'⟩ := NX a b c HS.out
          have cU := BU.out k hlk
          have cT := BT.out k hlk
          have SD := Lib.hid W.sd
          have SE := Lib.hid W.se
          have SP := Lib.hid W.sp
          have SR := Lib.hid W.sr
          have SA := Lib.hid AC
          have QA := r32 cc
          have CJ := Lib.hid (fun w => conj_w (w := w) d.1 d.2)
          have HS2 := Lib.hid H'
          have HZ2 : Hid (Flat (P.map (cjP fl)) i → Num.fv .f32 c' = 0) := Lib.hid fun hf => z' hf (HZ.out hf)
          have hkI : (k : Int) < (i : Int) := by omega
          clear NX W AC cc H' z' HS HZ
          generalize (P.map (cjP fl)).getD k (0, 0) = u at *
          generalize (P.map (mpP ⟨xa, xb, xc, xd, fl, xs⟩)).getD k (0, 0) = t at *
          obtain ⟨u1, u2⟩ := u
          obtain ⟨t1, t2⟩ := t
          obtain ⟨d1, d2⟩ := d
          obtain ⟨e1, e2⟩ := e
          obtain ⟨p1, p2'⟩ := p
          simp only at cU cT SD SE SP SR SA CJ
          go_wp2_with fail
          refine (SD.out _).mono ?_
          rintro e w5 ⟨rfl, hw5⟩
          obtain rfl := hw5.symm
          go_wp2_with fail
          refine (SE.out _).mono ?_
          rintro e w5 ⟨rfl, hw5⟩
          obtain rfl := hw5.symm
          go_wp2_with fail
          refine (CJ.out _).mono ?_
          rintro e w5 ⟨rfl, hw5⟩
          obtain rfl := hw5.symm
          go_wp2_with fail
          refine (SP.out _).mono ?_
          rintro e w5 ⟨rfl, hw5⟩
          obtain rfl := hw5.symm
          go_wp2_with fail
          refine (SA.out _).mono ?_
          rintro e w5 ⟨rfl, hw5⟩
          obtain rfl := hw5.symm
          go_wp2_with fail
          refine (SR.out _).mono ?_
          rintro e w5 ⟨rfl, hw5⟩
          obtain rfl := hw5.symm
          go_wp2
          go_round
          case rel => exact ⟨k + 1, a', b', c', by omega, by go_num, rfl, rfl, HS2, HZ2⟩
          case measure => simp [intOf]; omega
        · obtain rfl : i = k := by omega
          rcases HSP.out with hs | hf
          · obtain ⟨ta, tb, s1, s2, g, E⟩ := FE.out _ _ HM.out F HF1.out HF2.out (HF3.out hs) HF4.out a b c HS.out
            obtain ⟨g1, g2⟩ := g
            have hpos := E.pos
            have QC := Lib.hid E.qu
            have GC := Lib.hid E.mu
            have SC := Lib.hid E.su
            have HE := Lib.hid E
            have VC := valid_num fl E.ok
            unfold smallV at VC
            have VCH := Lib.hid VC
            have HHS := Lib.hid hs
            obtain ⟨w4, ew4⟩ : ∃ v, v = w2.alloc (.cells #[.complex .f32 ta tb, .complex .f32 s1 s2, .bool fl, .float .f32 1065353216] 29) := ⟨_, rfl⟩
            have R4 : Hid (Blk w4 w2.heap.size 29 #[.complex .f32 ta tb, .complex .f32 s1 s2, .bool fl, .float .f32 1065353216]) := by rw [ew4]; exact Blk.new _ _ _
            have B4 : Hid (Below w.heap.size w w4) := by rw [ew4]; exact HB.out.alloc HB.out.size _
            have K4 : Hid (Blk w4 w.heap.size 29 #[.complex .f32 0 0, .complex .f32 0 0, .bool false, .float .f32 0]) := by rw [ew4]; exact HK.out.alloc _
            have hne : w.heap.size < w2.heap.size := HK.out.lt
            have E4 := Lib.hid ew4
            clear E VC hs ew4 HK HB STH HS HZ FE HM HF1 HF2 HF3 HF4
            go_wp2_with fail
            refine (QC.out _).mono ?_
            rintro e w5 ⟨rfl, hw5⟩
            obtain rfl := hw5.symm
            go_wp2_with fail
            refine (GC.out _).mono ?_
            rintro e w5 ⟨rfl, hw5⟩
            obtain rfl := hw5.symm
            go_wp2_with fail
            refine (SC.out _).mono ?_
            rintro e w5 ⟨rfl, hw5⟩
            obtain rfl := hw5.symm
            go_wp2_with fail
            rw [← E4.out]
            refine (VCH.out _).mono ?_
            rintro e w5 ⟨rfl, hb5⟩
            have R5 := Lib.hid (R4.out.below hb5 R4.out.lt)
            have K5 := Lib.hid (K4.out.below hb5 K4.out.lt)
            have B5 := Lib.hid (B4.out.trans (hb5.mono B4.out.size))
            obtain ⟨g18, eg18⟩ : ∃ g, w2.heap.size = g := ⟨_, rfl⟩
            rw [eg18] at R5 hne ⊢
            have MS := Lib.hid HE.out.miss
            clear hb5 R4 K4 B4 E4 QC GC SC VCH hpos BU BT eg18
            go_wp2
            go_loopw [19, 108] (fun sf sj wr => ∃ j l : Nat, j ≤ i ∧ sj = .int .i64 (j : Int) ∧ sf = .float .f32 l ∧ Hid (l < 2139095040) ∧ Hid (Num.fv .f32 l ≤ 63 / 65536) ∧ Hid (Blk wr g18 29 #[.complex .f32 ta tb, .complex .f32 s1 s2, .bool fl, .float .f32 1065353216]) ∧
              Hid (Blk wr w.heap.size 29 #[.complex .f32 0 0, .complex .f32 0 0, .bool false, .float .f32 0]) ∧ Hid (Below w.heap.size w wr)) (fun _ sj _ => i - (intOf sj).toNat)
            case atStart => exact ⟨0, 0, Nat.zero_le _, rfl, rfl, Lib.hid (by omega), Lib.hid (by rw [c0.2]; decide +kernel), R5, K5, B5⟩
            case round =>
              clear R5 K5 B5
              obtain ⟨j, l, hj, rfl, rfl, HLL, HLV, HR, HK, HB⟩ := hrel
              by_cases hlj : j < i
              · obtain ⟨kk, qq, l2, MI, DI, LI, VI⟩ := MS.out j hlj
                have cP' := (HB.out.cell (p := ⟨bP, oP + j, none⟩) hbP).trans (HCP.out j _ (cxv_at HL.out hlj))
                have cT' := (HB.out.cell (p := ⟨bT, oT + j, none⟩) hbT).trans (HCT.out j _ (cxv_at HTL.out hlj))
                have MIH := Lib.hid MI
                have DIH := Lib.hid DI
                have LIH := Lib.hid LI.im
                have MX := plus_max HLL.out LI.lt
                have NL : Hid (max l l2 < 2139095040) := Lib.hid (by have := HLL.out; have := LI.lt; omega)
                have NV : Hid (Num.fv .f32 (max l l2) ≤ 63 / 65536) := by
                  rcases Nat.le_total l l2 with c | c
                  · rw [Nat.max_eq_right c]; exact Lib.hid VI
                  · rw [Nat.max_eq_left c]; exact HLV
                have hjI : (j : Int) < (i : Int) := by omega
                clear MI DI LI VI
                generalize P.getD j (0, 0) = z at *
                generalize (P.map (mpP ⟨xa, xb, xc, xd, fl, xs⟩)).getD j (0, 0) = t at *
                obtain ⟨z1, z2⟩ := z
                obtain ⟨t1, t2⟩ := t
                obtain ⟨k1, k2⟩ := kk
                obtain ⟨q1, q2⟩ := qq
                unfold smallV at MIH
                simp only at cP' cT' MIH DIH LIH
                have SPH : Hid (∀ w', Below wr.heap.size wr w' → w'.cell? ⟨g18, 0, none⟩ = some (.complex .f32 ta tb) ∧ w'.cell? ⟨g18, 1, none⟩ = some (.complex .f32 s1 s2) ∧ w'.cell? ⟨g18, 2, none⟩ = some (.bool fl) ∧ w'.cell? ⟨g18, 3, none⟩ = some (.float .f32 1065353216) ∧ w'.cell? ⟨bT, oT + j, none⟩ = some (.complex .f32 t1 t2) ∧ Below wr.heap.size wr w') := Lib.hid fun w' hb => by
                  have R := HR.out.below hb HR.out.lt
                  exact ⟨R.cell 0, R.cell 1, R.cell 2, R.cell 3, (hb.cell (p := ⟨bT, oT + j, none⟩) (Nat.lt_of_lt_of_le hbT HB.out.size)).trans cT', hb⟩
                obtain ⟨v0, v1, v2, v3, v4, _⟩ := SPH.out wr (Below.refl _ _)
                clear cT'
                go_wp2
                go_region_held3 (fun w' => w'.cell? ⟨g18, 0, none⟩ = some (.complex .f32 ta tb) ∧ w'.cell? ⟨g18, 1, none⟩ = some (.complex .f32 s1 s2) ∧ w'.cell? ⟨g18, 2, none⟩ = some (.bool fl) ∧ w'.cell? ⟨g18, 3, none⟩ = some (.float .f32 1065353216) ∧ w'.cell? ⟨bT, oT + j, none⟩ = some (.complex .f32 t1 t2) ∧ Below wr.heap.size wr w')
                  (first
                    | exact SPH.out _ (Below.refl _ _).drew
                    | exact SPH.out _ H6.out
                    | go_keep)
                  (first
                    | (go_at_call 45; refine (MIH.out _).mono ?_; rintro e w6 ⟨rfl, hb6⟩
                       have H6 : Hid (Below wr.heap.size wr w6) := Lib.hid ((Below.refl wr.heap.size wr).drew.trans (hb6.mono (Nat.le_refl _)))
                       clear hb6)
                    | (go_at_call 53; refine (DIH.out _).mono ?_; rintro e w5 ⟨rfl, hw5⟩; obtain rfl := hw5.symm)
                    | (go_at_call 55; refine (LIH.out _).mono ?_; rintro e w5 ⟨rfl, hw5⟩; obtain rfl := hw5.symm))
                all_goals
                  have R6 := Lib.hid (HR.out.below H6.out HR.out.lt)
                  have K6 := Lib.hid (HK.out.below H6.out HK.out.lt)
                  have B6 := Lib.hid (HB.out.trans (H6.out.mono HB.out.size))
                  go_wp2
                  go_roundw
                  case rel => exact ⟨j + 1, max l l2, by omega, by go_num, rfl, NL, NV, R6, K6, B6⟩
                  case measure => simp [intOf]; omega
              · obtain rfl : j = i := by omega
                have IF := Lib.hid (fun w => isFinite_num (plus_val HLL.out).1 w)
                have v0 := HR.out.cell 0
                have v1 := HR.out.cell 1
                have v2 := HR.out.cell 2
                have v3 := HR.out.cell 3
                go_wp2_with fail
                refine (IF.out _).mono ?_
                rintro e w5 ⟨rfl, hw5⟩
                obtain rfl := hw5.symm
                go_wp2_with (first
                  | (refine wpList_store_blk rfl _ _ _ rfl w.heap.size 0 rfl _ rfl [.complex .f32 ta tb, .complex .f32 s1 s2, .bool fl, .float .f32 1065353216] rfl 29 #[.complex .f32 0 0, .complex .f32 0 0, .bool false, .float .f32 0] #[.complex .f32 ta tb, .complex .f32 s1 s2, .bool fl, .float .f32 1065353216] HK.out (by kernel_rfl) (by simp) (by simp [Value.oneCell']) rfl ?_; intro w8 R8 g8)
                  | fail)
                refine bodyPost_ret (results_fit rfl _ w8 w.heap.size 29 _ _ rfl R8 Try.underlying29 rfl (by kernel_rfl) _ _ rfl rfl) rfl ?_
                refine ⟨HB.out.grown g8 HB.out.size (fun j e => by injection e with e; omega), .inl ⟨HHS.out, ta, tb, s1, s2, l, rfl, ?_⟩⟩
                exact ⟨HE.out.ok.fa, HE.out.ok.fb, HE.out.ok.fc, HE.out.ok.fd, HE.out.ia, HE.out.ib, HE.out.ic, HE.out.id, HLL.out, HLV.out⟩
          · have hz := HZ.out hf
            have hgt : (FloatKind.f32.format.order c 0 == some .gt) = false := by
              rw [cmp_eq' HS.out.fb c0.1 (by rw [hz, c0.2])]; rfl
            have HFL := Lib.hid hf
            clear hf hz HS HZ STH FE HM HF1 HF2 HF3 HF4 BU BT
            go_wp2_with (first
              | (refine wpList_store_blk rfl _ _ _ rfl w.heap.size 0 rfl _ rfl [.complex .f32 0 0, .complex .f32 0 0, .bool false, .float .f32 0] rfl 29 #[.complex .f32 0 0, .complex .f32 0 0, .bool false, .float .f32 0] #[.complex .f32 0 0, .complex .f32 0 0, .bool false, .float .f32 0] HK.out (by kernel_rfl) (by simp) (by simp [Value.oneCell']) rfl ?_; intro w8 R8 g8)
              | fail)
            refine bodyPost_ret (results_fit rfl _ w8 w.heap.size 29 _ _ rfl R8 Try.underlying29 rfl (by kernel_rfl) _ _ rfl rfl) rfl ?_
            exact ⟨HB.out.grown g8 HB.out.size (fun j e => by injection e with e; omega), .inr ⟨HFL.out, rfl⟩⟩
end Go.Proofs.Ytbpgbplepebcjaa

/- Walks: ImagesOf, CollageOf. Conditions: maps and points as the reference draws them. -/
import Derived.Test.YtbpgbplepebcjaaKgc
import Derived.Test.YtbpgbplepebcjaaMu
namespace Go.Proofs.Ytbpgbplepebcjaa
open Go.RowKit
open Num Quick
attribute [local go_sem] run_store_fl run_store_cx

/-- What a map makes of a point. -/
structure MapB (x : Sm) (z r : Nat × Nat) : Prop where
  im : ∀ w : World, Calls Try.prog 45 #[smallV x.a x.b x.c x.d x.fl x.s, .complex .f32 z.1 z.2] w fun e w' => e = .returned (.complex .f32 r.1 r.2) ∧ Below w.heap.size w w'
  g1 : GF 5 96 r.1
  g2 : GF 5 96 r.2
  v1 : Num.fv .f32 r.1 = Num.fv .f32 x.a * Num.fv .f32 z.1 - Num.fv .f32 x.b * (if x.fl then -Num.fv .f32 z.2 else Num.fv .f32 z.2) + Num.fv .f32 x.c
  v2 : Num.fv .f32 r.2 = Num.fv .f32 x.a * (if x.fl then -Num.fv .f32 z.2 else Num.fv .f32 z.2) + Num.fv .f32 x.b * Num.fv .f32 z.1 + Num.fv .f32 x.d
theorem map_b {N : Nat} {x : Sm} (hx : x.ok N) {z : Nat × Nat} (hz : PtOk z) : ∃ r, MapB x z r := by
  obtain ⟨u, v, J, u1, u2, u3, u4⟩ := maps_exact (s := x.s) (D := 32) (E := 96) (j := 3) x.fl hx.a hx.b hx.c hx.d hz.1 hz.2 (by decide) (by decide) rfl (by decide) (by decide) (by decide) (by decide) (by decide) (by decide)
  exact ⟨(u, v), J, u1, u2, u3, u4⟩
open Classical in
noncomputable def mpP (x : Sm) (z : Nat × Nat) : Nat × Nat := if h : ∃ r, MapB x z r then Classical.choose h else (0, 0)
theorem mpP_spec {N : Nat} {x : Sm} (hx : x.ok N) {z : Nat × Nat} (hz : PtOk z) : MapB x z (mpP x z) := by
  have h := map_b hx hz
  unfold mpP
  rw [dif_pos h]
  exact Classical.choose_spec h
theorem pt_pl {z : Nat × Nat} (h : PtOk z) : PlOk z := ⟨h.1.fin, h.2.fin, h.1.low (by decide), h.2.low (by decide)⟩
theorem img_pl {x : Sm} {z r : Nat × Nat} (h : MapB x z r) : PlOk r := ⟨h.g1.fin, h.g2.fin, h.g1.low (by decide), h.g2.low (by decide)⟩
/-- The images of points. -/
noncomputable def imgs (L : List Sm) (P : List (Nat × Nat)) : List (Nat × Nat) := L.flatMap fun x => P.map (mpP x)
theorem imgs_pl {N : Nat} {L : List Sm} {P : List (Nat × Nat)} (hok : ∀ x ∈ L, x.ok N) (hP : ∀ p ∈ P, PtOk p) : ∀ q ∈ imgs L P, PlOk q := by
  intro q hq
  unfold imgs at hq
  rw [List.mem_flatMap] at hq
  obtain ⟨x, hx, hq⟩ := hq
  obtain ⟨z, hz, rfl⟩ := List.mem_map.1 hq
  exact img_pl (mpP_spec (hok x hx) (hP z hz))
theorem imgs_length (L : List Sm) (P : List (Nat × Nat)) : (imgs L P).length = L.length * P.length := by
  unfold imgs
  induction L with
  | nil => simp
  | cons x L ih => rw [List.flatMap_cons, List.length_append, ih, List.length_map, List.length_cons, Nat.succ_mul, Nat.add_comm]
theorem imgs_take {L : List Sm} {P : List (Nat × Nat)} {k : Nat} {x : Sm} (h : L[k]? = some x) : imgs (L.take (k + 1)) P = imgs (L.take k) P ++ P.map (mpP x) := by
  unfold imgs
  rw [List.take_add_one, h]
  simp
theorem map_take {P : List (Nat × Nat)} {f : Nat × Nat → Nat × Nat} {j : Nat} (h : j < P.length) : (P.take (j + 1)).map f = (P.take j).map f ++ [f (P.getD j (0, 0))] := by
  rw [List.take_add_one, List.getElem?_eq_getElem h, List.getD_eq_getElem?_getD, List.getElem?_eq_getElem h, List.map_append]
  rfl
theorem finite1 {z : Nat × Nat} (hz : PlOk z) (w : World) : Calls Try.prog 107 #[.complex .f32 z.1 z.2] w fun e w' => e = .returned (.bool false) ∧ w' = w := by
  have SM := Lib.hid (fun w => finiteC_num hz.1 hz.2.1 w)
  clear hz
  go_enter Try.func107, Try.ntmps107
  go_wp2_with fail
  refine (SM.out _).mono ?_
  rintro e w1 ⟨rfl, rfl⟩
  go_wp2
  go_ret
  exact ⟨rfl, rfl⟩
set_option maxRecDepth 100000 in
theorem indexFinite (P : List (Nat × Nat)) (A : Option Addr) (n c : Nat) (w : World) (hl : P.length = n) (hn2 : n ≤ 256) (hP : ∀ p ∈ P, PlOk p) (hA : Rd w w.heap.size 1 A n (P.map cxv)) :
    Calls Try.prog 122 #[.slice A n c, .func (.func 107) #[] #[]] w fun e w' => e = .returned (.int .i64 (-1)) ∧ w' = w := by
  have HA := Lib.hid hA
  have HL := Lib.hid hl
  have HPP := Lib.hid hP
  clear hA hl hP
  go_enter Try.func122, Try.ntmps122
  go_wp2
  go_loop [8] (fun si => ∃ k : Nat, k ≤ n ∧ si = .int .i64 k) (fun i => n - (intOf i).toNat)
  case atStart => exact ⟨0, Nat.zero_le _, rfl⟩
  case round =>
    obtain ⟨k, hk, rfl⟩ := hrel
    by_cases hlt : k < n
    · obtain ⟨b, off, rfl, hbb, hc⟩ := HA.out.2 (by omega)
      have cY := hc k _ (cxv_at HL.out hlt)
      have PY := Lib.hid (finite1 (HPP.out _ (pl_mem HL.out hlt)))
      clear hc
      generalize P.getD k (0, 0) = y at *
      obtain ⟨y1, y2⟩ := y
      simp only at cY PY
      have hkI : (k : Int) < (n : Int) := Int.ofNat_lt.mpr hlt
      go_wp2_with (go_at_call 107; refine (PY.out _).mono ?_; rintro e w5 ⟨rfl, hw5⟩; obtain rfl := hw5.symm)
      go_round
      case rel => exact ⟨k + 1, by omega, by go_num⟩
      case measure => simp [intOf]; omega
    · obtain rfl : k = n := by omega
      go_wp2
      go_ret
      simp
theorem areFinite_w (P : List (Nat × Nat)) (A : Option Addr) (n c : Nat) (w : World) (hl : P.length = n) (hn2 : n ≤ 256) (hP : ∀ p ∈ P, PlOk p) (hA : Rd w w.heap.size 1 A n (P.map cxv)) :
    Calls Try.prog 79 #[.slice A n c] w fun e w' => e = .returned (.bool true) ∧ w' = w := by
  have IC := Lib.hid (indexFinite P A n c w hl hn2 hP hA)
  have CC : Hid (Calls Try.prog 105 #[.slice A n c, .func (.func 107) #[] #[]] w fun e w' => e = .returned (.bool false) ∧ w' = w) := by
    refine Lib.hid ?_
    clear hl hP hA
    go_enter Try.func105, Try.ntmps105
    go_wp2_with fail
    refine IC.out.mono ?_
    rintro e w1 ⟨rfl, rfl⟩
    go_wp2
    go_ret
    simp
  clear hl hP hA IC
  go_enter Try.func79, Try.ntmps79
  go_wp2_with fail
  refine CC.out.mono ?_
  rintro e w1 ⟨rfl, rfl⟩
  go_wp2
  go_ret
  exact ⟨rfl, rfl⟩
set_option maxRecDepth 100000 in
set_option maxHeartbeats 4000000 in
theorem imagesOf_w (L : List Sm) (N : Nat) (P : List (Nat × Nat)) (A AP : Option Addr) (n c cP : Nat) (w : World) (hL : L.length = N) (hN : N = 1 ∨ N = 2 ∨ N = 4) (hok : ∀ x ∈ L, x.ok N) (hR : Rd w w.heap.size 4 A N (smCells L))
    (hl : P.length = n) (hn : 1 ≤ n) (hn2 : n ≤ 20) (hP : ∀ p ∈ P, PtOk p) (hA : Rd w w.heap.size 1 AP n (P.map cxv)) :
    Calls Try.prog 33 #[.slice A N c, .slice AP n cP] w fun e w' => ∃ g c', e = .returned (.tuple #[.slice (some ⟨g, 0, none⟩) (N * n) c', .bool true]) ∧ w'.ownsRow w.heap.size 26 1 (.slice (some ⟨g, 0, none⟩) (N * n) c') (N * n) ((imgs L P).map cxv) ∧ Below w.heap.size w w' := by
  have hN4 : N ≤ 4 := by omega
  have hN1 : 1 ≤ N := by omega
  obtain ⟨NM, eNM⟩ : ∃ m, N * n = m := ⟨_, rfl⟩
  have hNM : NM ≤ 80 := by rw [← eNM]; exact Nat.mul_le_mul hN4 hn2
  have eNI : (N : Int) * (n : Int) = (NM : Int) := by rw [← eNM]; simp
  have hNI : ¬ ((256 : Int) < (NM : Int)) := by omega
  have hNn : ¬ (256 < NM) := by omega
  have HIL : Hid ((imgs L P).length = NM) := by unfold Hid; rw [imgs_length, hL, hl, eNM]
  rw [eNM]
  have AS := Lib.hid (areSmalls_ok L N A c w hL hN hok hR)
  have SP := Lib.hid (fun w' (hb : Below w.heap.size w w') => areSmall_w P AP n cP w' hl (by omega) (fun p hp => pt_pl (hP p hp)) ((hA.below hb).more hb.size))
  have FN := Lib.hid (fun g c' w' (hR : Rd w' w'.heap.size 1 (some ⟨g, 0, none⟩) NM ((imgs L P).map cxv)) => areFinite_w (imgs L P) (some ⟨g, 0, none⟩) NM c' w' HIL.out (by omega) (imgs_pl hok hP) hR)
  have IT := Lib.hid (fun k x (h : L[k]? = some x) => imgs_take (P := P) h)
  have MB := Lib.hid (fun k x (h : L[k]? = some x) j (hj : j < n) => mpP_spec (hok x (List.mem_of_getElem? h)) (hP _ (pl_mem hl hj)))
  have HL := Lib.hid hL
  have HPL := Lib.hid hl
  have HA := Lib.hid hA
  have HR := Lib.hid hR
  have GT := Lib.hid (fun k x (h : L[k]? = some x) => smCells_get L k x h)
  have IL := Lib.hid (fun k => imgs_length (L.take k) P)
  clear hL hN hok hR hl hP hA eNM
  go_enter Try.func33, Try.ntmps33
  go_wp2_with fail
  refine AS.out.mono ?_
  rintro e w1 ⟨rfl, hb1⟩
  have B1 := Lib.hid hb1
  clear hb1 AS
  go_wp2_with fail
  refine (SP.out _ B1.out).mono ?_
  rintro e w5 ⟨rfl, hw5⟩
  obtain rfl := hw5.symm
  clear SP
  obtain ⟨w2, ew2⟩ : ∃ x, x = w1.alloc (.cells #[] 26) := ⟨_, rfl⟩
  have B2 : Hid (Below w.heap.size w w2) := by rw [ew2]; exact B1.out.alloc B1.out.size _
  have O2 : Hid (w2.ownsRow w.heap.size 26 1 (.slice (some ⟨w1.heap.size, 0, none⟩) 0 0) 0 ((imgs (L.take 0) P).map cxv)) := by
    rw [ew2]; exact (Blk.new w1 _ _).own (n := 0) (size := 1) B1.out.size rfl (by unfold maxLen; omega)
  go_wp2
  rw [← ew2]
  clear ew2
  go_loopw [6, 30] (fun so si wr => ∃ (k m g c' : Nat), k ≤ N ∧ si = .int .i64 (k : Int) ∧ so = .slice (some ⟨g, 0, none⟩) m c' ∧ Hid ((imgs (L.take k) P).length = m) ∧ Hid (wr.ownsRow w.heap.size 26 1 (.slice (some ⟨g, 0, none⟩) m c') m ((imgs (L.take k) P).map cxv)) ∧ Hid (Below w.heap.size w wr)) (fun _ si _ => N - (intOf si).toNat)
  case atStart => exact ⟨0, 0, _, _, Nat.zero_le _, rfl, rfl, Lib.hid (by rw [IL.out]; simp), O2, B2⟩
  case round =>
    clear O2 B2
    obtain ⟨k, m, g, c', hk, rfl, rfl, HM, HO, HB⟩ := hrel
    by_cases hlt : k < N
    · obtain ⟨x, hx⟩ : ∃ x, L[k]? = some x := ⟨_, List.getElem?_eq_getElem (by have := HL.out; omega)⟩
      have ITX := Lib.hid (IT.out k x hx)
      have MBX := Lib.hid (MB.out k x hx)
      obtain ⟨g0, g1, g2, g3⟩ := GT.out k x hx
      obtain ⟨b, off, rfl, hbb, hcell⟩ := HR.out.2 (by omega)
      have d0 := (HB.out.cell (p := ⟨b, off + k * 4, none⟩) hbb).trans (hcell _ _ g0)
      have d1 := (HB.out.cell (p := ⟨b, off + k * 4 + 1, none⟩) hbb).trans (hcell _ _ g1)
      have d2 := (HB.out.cell (p := ⟨b, off + k * 4 + 2, none⟩) hbb).trans (hcell _ _ g2)
      have d3 := (HB.out.cell (p := ⟨b, off + k * 4 + 3, none⟩) hbb).trans (hcell _ _ g3)
      have hmk : m ≤ 80 := by
        have := HM.out
        rw [IL.out, List.length_take, HPL.out] at this
        have h2 : min k L.length * n ≤ 4 * 20 := Nat.mul_le_mul (by omega) hn2
        omega
      have hkI : (k : Int) < (N : Int) := by omega
      obtain ⟨v, ev⟩ : ∃ v, v = wr.alloc (.cells (smallC x.a x.b x.c x.d x.fl x.s) 29) := ⟨_, rfl⟩
      have K1 : Hid (Blk v wr.heap.size 29 (smallC x.a x.b x.c x.d x.fl x.s)) := by rw [ev]; exact Blk.new _ _ _
      have O1 : Hid (v.ownsRow w.heap.size 26 1 (.slice (some ⟨g, 0, none⟩) m c') m ((imgs (L.take k) P ++ (P.take 0).map (mpP x)).map cxv)) := by
        rw [List.take_zero, List.map_nil, List.append_nil, ev]; exact HO.out.alloc _
      have V1 : Hid (Below w.heap.size w v) := by rw [ev]; exact HB.out.alloc HB.out.size _
      have hgwr : w.heap.size ≤ wr.heap.size := HB.out.size
      obtain ⟨g8, eg8⟩ : ∃ g, wr.heap.size = g := ⟨_, rfl⟩
      rw [eg8] at K1 hgwr
      obtain ⟨xa, xb, xc, xd, xf, xs⟩ := x
      simp only at g0 g1 g2 g3 d0 d1 d2 d3
      have EV : Hid (v = wr.alloc (.cells #[.complex .f32 xa xb, .complex .f32 xc xd, .bool xf, .float .f32 xs] 29)) := Lib.hid ev
      have K2 : Hid (Blk v g8 29 #[.complex .f32 xa xb, .complex .f32 xc xd, .bool xf, .float .f32 xs]) := K1
      clear g0 g1 g2 g3 hcell HO HB ev hx K1
      go_wp2
      rw [← EV.out]
      clear EV eg8 d0 d1 d2 d3
      go_loopw [6, 36] (fun so sj wr => ∃ (j q g c' : Nat), j ≤ n ∧ sj = .int .i64 (j : Int) ∧ so = .slice (some ⟨g, 0, none⟩) q c' ∧ Hid (m + j = q) ∧ Hid (wr.ownsRow w.heap.size 26 1 (.slice (some ⟨g, 0, none⟩) q c') q ((imgs (L.take k) P ++ (P.take j).map (mpP ⟨xa, xb, xc, xd, xf, xs⟩)).map cxv)) ∧
        Hid (Blk wr g8 29 #[.complex .f32 xa xb, .complex .f32 xc xd, .bool xf, .float .f32 xs]) ∧ Hid (Below w.heap.size w wr)) (fun _ sj _ => n - (intOf sj).toNat)
      case atStart => exact ⟨0, m, g, c', Nat.zero_le _, rfl, rfl, Lib.hid rfl, O1, K2, V1⟩
      case round =>
        clear O1 K2 V1
        obtain ⟨j, q, g, c', hj, rfl, rfl, HQ, HO, HK, HB⟩ := hrel
        by_cases hlj : j < n
        · obtain ⟨bp, op, rfl, hbp, hcp⟩ := HA.out.2 (by omega)
          have cz := (HB.out.cell (p := ⟨bp, op + j, none⟩) hbp).trans (hcp j _ (cxv_at HPL.out hlj))
          have MC := Lib.hid (MBX.out j hlj).im
          have MT := Lib.hid (map_take (P := P) (f := mpP ⟨xa, xb, xc, xd, xf, xs⟩) (j := j) (by rw [HPL.out]; exact hlj))
          have hq : q ≤ 100 := by have := HQ.out; omega
          have hjI : (j : Int) < (n : Int) := by omega
          have m0 := HK.out.cell 0
          have m1 := HK.out.cell 1
          have m2 := HK.out.cell 2
          have m3 := HK.out.cell 3
          clear hcp
          generalize P.getD j (0, 0) = z at *
          generalize mpP ⟨xa, xb, xc, xd, xf, xs⟩ z = r at *
          obtain ⟨z1, z2⟩ := z
          obtain ⟨r1, r2⟩ := r
          unfold smallV at MC
          simp only at cz MC
          go_wp2_with fail
          refine (MC.out _).mono ?_
          rintro e w4 ⟨rfl, hb4⟩
          have O4 := Lib.hid (own_below HO.out hb4)
          have K4 := Lib.hid (HK.out.below hb4 HK.out.lt)
          have V4 := Lib.hid (HB.out.trans (hb4.mono HB.out.size))
          clear hb4 HO HK HB m0 m1 m2 m3 cz
          go_wp2_with (first
            | (at_builtin; refine wpList_append_one (P := Try.prog) (W := w4) rfl _ _ _ rfl w.heap.size 26 (.complex .f32 0 0) 8 Try.underlying30 cxInfo rfl (some ⟨g, 0, none⟩) q c' ((imgs (L.take k) P ++ (P.take j).map (mpP ⟨xa, xb, xc, xd, xf, xs⟩)).map cxv) rfl O4.out (.complex .f32 r1 r2) w4.heap.size rfl rfl rfl (by unfold maxLen; omega) (by omega) V4.out.size ?_; intro A9 c9 w9 ho9 hg9 hd9)
            | fail)
          obtain ⟨g9, c9', e9, _, _⟩ := ho9.form (by omega)
          rw [e9] at ho9
          have K9 := Lib.hid (K4.out.grown hg9 (own_blk_ne O4.out K4.out (by decide)))
          have V9 := Lib.hid (V4.out.grown hg9 V4.out.size (fun k e => (O4.out.lt k e).1))
          have O9 : Hid (w9.ownsRow w.heap.size 26 1 (.slice (some ⟨g9, 0, none⟩) (q + 1) c9') (q + 1) ((imgs (L.take k) P ++ (P.take (j + 1)).map (mpP ⟨xa, xb, xc, xd, xf, xs⟩)).map cxv)) := by
            rw [MT.out, ← List.append_assoc, List.map_append (l₂ := [(r1, r2)])]; exact Lib.hid ho9
          have E9 := Lib.hid e9
          clear ho9 hg9 hd9 e9 O4 K4 V4
          go_wp2
          go_roundw
          case rel => exact ⟨j + 1, q + 1, g9, c9', by omega, by go_num, by rw [E9.out], Lib.hid (by have := HQ.out; omega), O9, K9, V9⟩
          case measure => simp [intOf]; omega
        · obtain rfl : j = n := by omega
          have HO2 : Hid (wr.ownsRow w.heap.size 26 1 (.slice (some ⟨g, 0, none⟩) q c') q ((imgs (L.take (k + 1)) P).map cxv)) := by
            rw [ITX.out]
            have := HO.out
            rw [show P.take j = P from List.take_of_length_le (by rw [HPL.out]; exact Nat.le_refl _)] at this
            exact Lib.hid this
          have HM2 : Hid ((imgs (L.take (k + 1)) P).length = q) := by
            rw [ITX.out, List.length_append, HM.out, List.length_map, HPL.out]
            exact HQ
          go_wp2
          go_roundw
          case rel => exact ⟨k + 1, q, g, c', by omega, by go_num, rfl, HM2, HO2, HB⟩
          case measure => simp [intOf]; omega
    · obtain rfl : k = N := by omega
      have e : L.take k = L := List.take_of_length_le (by rw [HL.out]; exact Nat.le_refl _)
      rw [e] at HM HO
      obtain rfl : m = NM := by rw [← HM.out]; exact HIL.out
      have F1 := Lib.hid (FN.out g c' wr (Rd.own HO.out))
      clear e
      go_wp2_with fail
      refine F1.out.mono ?_
      rintro e w5 ⟨rfl, hw5⟩
      obtain rfl := hw5.symm
      go_wp2
      go_ret2
      exact ⟨g, c', rfl, HO.out, HB.out⟩
end Go.Proofs.Ytbpgbplepebcjaa

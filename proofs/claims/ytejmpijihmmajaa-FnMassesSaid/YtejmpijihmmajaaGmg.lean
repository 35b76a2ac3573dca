/- Walks: the program's groups of the cells of a field that are not full. Conditions: the field is valid. -/
import Derived.Test.YtejmpijihmmajaaRep
import Derived.Test.YtejmpijihmmajaaGs
import Derived.Test.YtejmpijihmmajaaNb
namespace Go.Proofs.Ytejmpijihmmajaa
open Go.RowKit

set_option maxRecDepth 100000 in
theorem holesFn_any (i N : Nat) (A : Option Addr) (c g B : Nat) (cs : List Bool) (w : World) (hi : i < N) (hN : N ≤ 256) (hl : cs.length = N) (h2 : w.cell? ⟨g, 2, none⟩ = some (.slice A N c)) (hA : Rd w B 1 A N (cs.map bv)) :
    Calls Try.prog 30 #[.int .i64 i, .pointer (some ⟨g, 0, none⟩)] w fun e w' => e = .returned (.bool (!cs.getD i false)) ∧ w' = w := by
  obtain ⟨b0, off, rfl, hbb, hc⟩ := hA.2 (by omega)
  have hic : i < cs.length := by omega
  have cC : w.cell? ⟨b0, off + i, none⟩ = some (.bool (cs.getD i false)) := by
    refine hc i _ ?_
    rw [List.getElem?_map, List.getElem?_eq_getElem hic, List.getD_eq_getElem?_getD, List.getElem?_eq_getElem hic]; rfl
  generalize cs.getD i false = x at *
  clear hc hic hl
  go_enter Try.func30, Try.ntmps30
  go_wp2
  go_ret
  exact ⟨rfl, rfl⟩

set_option maxRecDepth 100000 in
set_option maxHeartbeats 4000000 in
theorem grouped_any (W H N : Nat) (A : Option Addr) (c g : Nat) (cs0 cs : List Bool) (w : World) (hW : 1 ≤ W) (hW' : W ≤ 16) (hH : 1 ≤ H) (hH' : H ≤ 16) (hl : cs.length = N) (hl0 : cs0.length = N) (hneg : ∀ i < N, cs.getD i false = !cs0.getD i false) (hP : W * H = N)
    (hgl : g < w.heap.size) (hb : w.cell? ⟨g, 2, none⟩ = some (.slice A N c)) (hA : Rd w w.heap.size 1 A N (cs0.map bv)) :
    Calls Try.prog 29 #[.int .i64 W, .int .i64 H, .func (.func 30) #[] #[.pointer (some ⟨g, 0, none⟩)]] w fun e w' => ∃ (ts sz : List Int) (A' As : Option Addr) (c' cz : Nat), e = .returned (.tuple #[.slice A' N c', .slice As sz.length cz]) ∧
      Hid (Grp cs N (nbs W H) N ts sz) ∧ w'.ownsRow w.heap.size 2 1 (.slice A' N c') N (ts.map iv) ∧ w'.ownsRow w.heap.size 2 1 (.slice As sz.length cz) sz.length (sz.map iv) ∧
      Dis (.slice A' N c') (.slice As sz.length cz) ∧ Below w.heap.size w w' := by
  have FN : Hid (∀ i w', i < N → Below w.heap.size w w' → Calls Try.prog 30 #[.int .i64 (i : Nat), .pointer (some ⟨g, 0, none⟩)] w' fun e w'' => e = .returned (.bool (cs.getD i false)) ∧ w'' = w') := fun i w' hi hbw => by
    rw [hneg i hi]
    exact holesFn_any i N A c g w.heap.size cs0 w' hi (by have := Nat.mul_le_mul hW' hH'; omega) hl0 ((hbw.cell hgl).trans hb) (hA.below hbw)
  have hN256 : N ≤ 256 := by have := Nat.mul_le_mul hW' hH'; omega
  have hN1 : 1 ≤ N := by rw [← hP]; exact Nat.mul_pos hW hH
  have hPI : (W : Int) * (H : Int) = (N : Int) := by rw [← hP]; simp
  have HN := Lib.hid hl
  have HP := Lib.hid hP
  clear hl hP hb hA hneg hl0
  go_enter Try.func29, Try.ntmps29
  go_wp2_with fail
  refine (repeatInt_one _ 0 1 N (.int .i64 (-1)) _ (by omega) (by rw [World.cell?_alloc_at _ _ _ _ rfl]; rfl) rfl).mono ?_
  rintro e w1 ⟨Ao, rfl, ho, hb1⟩
  have hbv : Below w.heap.size w w1 := ((Below.refl _ _).alloc (Nat.le_refl _) _).trans (hb1.mono (by simp))
  have ho1 : w1.ownsRow w.heap.size 2 1 (.slice Ao N N) N ((List.replicate N (-1 : Int)).map iv) := by rw [List.map_replicate]; exact own_base ho (by simp)
  have HO := Lib.hid ho1
  have HB := Lib.hid hbv
  have hsz1 := hbv.size
  have b1 : Hid (Blk (w1.alloc (.cells #[] 2)) w1.heap.size 2 #[]) := Blk.new _ _ _
  have G0 : Hid (Grp cs N (nbs W H) 0 (List.replicate N (-1)) []) := Grp.zero
  clear ho ho1 hb1 hbv
  go_wp2
  go_loopw [9, 25] (fun sz si wr => ∃ (i : Nat) (ts ss : List Int) (As : Option Addr) (cz : Nat), i ≤ N ∧ si = .int .i64 i ∧ sz = .slice As ss.length cz ∧
      wr.ownsRow w.heap.size 2 1 (.slice Ao N N) N (ts.map iv) ∧ wr.ownsRow w.heap.size 2 1 (.slice As ss.length cz) ss.length (ss.map iv) ∧ Dis (.slice Ao N N) (.slice As ss.length cz) ∧
      Below w.heap.size w wr ∧ Hid (Grp cs N (nbs W H) i ts ss)) (fun _ i _ => N - (intOf i).toNat)
  case atStart =>
    refine ⟨0, _, [], _, 0, Nat.zero_le _, rfl, rfl, HO.out.alloc _, b1.out.own (n := 0) (size := 1) hsz1 rfl (by unfold maxLen; omega), fun j h h' => ?_, HB.out.alloc hsz1 _, G0⟩
    have := (HO.out.lt j h).2
    simp [Value.ownBlock] at h'
    omega
  case round =>
    clear HO HB b1 G0 hsz1
    obtain ⟨i, ts, ss, As, cz, hi, rfl, rfl, ho, hos, hds, hb, G⟩ := hrel
    have hsz := hb.size
    have I := Lib.hid G.out.inv
    have hss : ss.length ≤ i := I.out.num
    by_cases hlt : i < N
    · obtain ⟨gt, co', hvt, _, hgt'⟩ := ho.form (by omega)
      obtain ⟨rfl, rfl⟩ : Ao = some ⟨gt, 0, none⟩ ∧ N = co' := by injection hvt with h1 _ h3; exact ⟨h1, h3⟩
      obtain ⟨t, et⟩ : ∃ t, ts.getD i 0 = t := ⟨_, rfl⟩
      have hta : i < ts.length := by rw [I.out.len]; exact hlt
      have cT : wr.cell? ⟨gt, i, none⟩ = some (.int .i64 t) := by
        rw [ho.cellAt _ (by omega), List.getElem?_map, List.getElem?_eq_getElem hta, ← et, List.getD_eq_getElem?_getD, List.getElem?_eq_getElem hta]; rfl
      have ET := Lib.hid et
      have HO := Lib.hid ho
      have HS := Lib.hid hos
      have HDS := Lib.hid hds
      have HB := Lib.hid hb
      have hgt0 : w.heap.size ≤ gt := (ho.lt gt rfl).1
      have FI := Lib.hid (FN.out i wr hlt hb)
      obtain ⟨x, ex⟩ : ∃ x, cs.getD i false = x := ⟨_, rfl⟩
      have EX := Lib.hid ex
      rw [ex] at FI
      clear ho hos hds hb et hvt ex
      cases x
      · have G1 : Hid (Grp cs N (nbs W H) (i + 1) ts ss) := .skip G.out (by rw [EX.out]; simp)
        go_wp2_with (go_at_call 30; refine FI.out.mono ?_; rintro e w5 ⟨rfl, h5⟩; obtain rfl := h5.symm)
        go_roundw
        case rel => exact ⟨i + 1, ts, ss, As, cz, by omega, by go_num, rfl, HO.out, HS.out, HDS.out, HB.out, G1⟩
        case measure => simp [intOf]; omega
      · by_cases ht : 0 ≤ t
        · have G1 : Hid (Grp cs N (nbs W H) (i + 1) ts ss) := .skip G.out (by rw [ET.out]; omega)
          go_wp2_with (go_at_call 30; refine FI.out.mono ?_; rintro e w5 ⟨rfl, h5⟩; obtain rfl := h5.symm)
          go_roundw
          case rel => exact ⟨i + 1, ts, ss, As, cz, by omega, by go_num, rfl, HO.out, HS.out, HDS.out, HB.out, G1⟩
          case measure => simp [intOf]; omega
        · have S0 : Hid (Srch cs N (nbs W H) ts ss.length i (ts.set i ss.length) [] [i]) := .start I.out.len (by omega) hlt I.out.fresh (by rw [ET.out]; omega)
          have C0 : Hid (cs.getD i false = true ∧ ts.getD i 0 < 0) := ⟨EX.out, by rw [ET.out]; omega⟩
          clear I EX
          go_wp2_with (first
            | (go_at_call 30; refine FI.out.mono ?_; rintro e w5 ⟨rfl, h5⟩; obtain rfl := h5.symm)
            | (at_builtin; refine wpList_append_one (W := wr) rfl _ _ _ rfl w.heap.size 2 (.int .i64 0) 8 Try.underlying34 intInfo rfl As ss.length cz _ rfl HS.out (.int .i64 0) _ rfl (by simp) rfl (by unfold maxLen; omega) (by omega) hsz ?_; intro A3 c3 w3 ho3 hg3 hd3
               have ho2 := own_kept HO.out hg3 HDS.out
               have fT : w3.frozen? ⟨gt, i, none⟩ = false := ho2.frozenAt _
               have cT3 : w3.cell? ⟨gt, i, none⟩ = some (.int .i64 t) := by rw [ho2.cellAt _ (by omega), List.getElem?_map, List.getElem?_eq_getElem hta, ← ET.out, List.getD_eq_getElem?_getD, List.getElem?_eq_getElem hta]; rfl
               have HD3 : Hid (Dis (.slice A3 (ss.length + 1) c3) (.slice (some ⟨gt, 0, none⟩) N N)) := hd3 _ (Old.own HO.out) HDS.out.symm
               have HB3 := Lib.hid (HB.out.grown hg3 hsz (fun j e => (HS.out.lt j e).1))
               have HO2 := Lib.hid ho2
               have HO3 := Lib.hid ho3
               have hz3 := HB3.out.size
               clear ho2 ho3 hg3 hd3))
          obtain ⟨ho4, hg4⟩ := HO2.out.stored i (.int .i64 (ss.length : Int))
          have hs4 := own_kept HO3.out (u := .slice (some ⟨gt, 0, none⟩) N N) hg4 HD3.out
          have hb4 := HB3.out.grown hg4 hz3 (fun j e => by injection e with e; omega)
          have hz4 := hb4.size
          have bl : Hid (Blk ((w3.setCell ⟨gt, i, none⟩ (.int .i64 (ss.length : Int))).alloc (.cells #[.int .i64 (i : Int)] 2)) w3.heap.size 2 #[.int .i64 (i : Int)]) := Blk.at_ _ _ _ (by simp [World.setCell])
          have HO4 := Lib.hid ho4
          have HS4 := Lib.hid hs4
          have HB4 := Lib.hid hb4
          obtain ⟨gz, c3', hvz, _, hgz⟩ := hs4.form (by omega)
          obtain ⟨rfl, rfl⟩ : A3 = some ⟨gz, 0, none⟩ ∧ c3 = c3' := by injection hvz with h1 _ h3; exact ⟨h1, h3⟩
          have hgz0 : w.heap.size ≤ gz := (hs4.lt gz rfl).1
          clear ho4 hs4 hb4 hg4 hvz HO HS HDS HB FI HB3 HO2 HO3 fT cT3 cT
          go_loopg [12] (N + 1) (fun gk sl wr => ∃ (ts' : List Int) (D O : List Nat) (Al : Option Addr) (cl : Nat), sl = .slice Al O.length cl ∧
              wr.ownsRow w.heap.size 2 1 (.slice (some ⟨gt, 0, none⟩) N N) N (ts'.map iv) ∧ wr.ownsRow w.heap.size 2 1 (.slice (some ⟨gz, 0, none⟩) (ss.length + 1) c3) (ss.length + 1) ((ss ++ [(D.length : Int)]).map iv) ∧ wr.ownsRow w.heap.size 2 1 (.slice Al O.length cl) O.length (O.map nv) ∧
              Dis (.slice (some ⟨gt, 0, none⟩) N N) (.slice Al O.length cl) ∧ Dis (.slice (some ⟨gz, 0, none⟩) (ss.length + 1) c3) (.slice Al O.length cl) ∧ Below w.heap.size w wr ∧
              Hid (Srch cs N (nbs W H) ts ss.length i ts' D O) ∧ gk + D.length = N + 1 ∧ O.length ≤ N)
          case atStart =>
            refine ⟨_, [], [i], _, 1, rfl, ?_, ?_, bl.out.own (n := 1) (size := 1) hz3 rfl (by unfold maxLen; omega), fun j h h' => ?_, fun j h h' => ?_, HB4.out.alloc hz4 _, S0, rfl, hN1⟩
            · rw [List.map_set]; exact HO4.out.alloc _
            · rw [List.map_append]; exact HS4.out.alloc _
            · have := (HO4.out.lt j h).2
              simp [Value.ownBlock] at h' this
              omega
            · have := (HS4.out.lt j h).2
              simp [Value.ownBlock] at h' this
              omega
          case round =>
            clear HO4 HS4 HB4 bl S0 hz4 hz3
            obtain ⟨ts', D, O, Al, cl, rfl, ho, hos, hol, hd1, hd2, hb, S, hgk, hON⟩ := hrel
            have hsz := hb.size
            by_cases hlt2 : 0 < O.length
            · obtain ⟨gl, cl', hvl, _, hgl'⟩ := hol.form (by omega)
              obtain ⟨rfl, rfl⟩ : Al = some ⟨gl, 0, none⟩ ∧ cl = cl' := by injection hvl with h1 _ h3; exact ⟨h1, h3⟩
              have hDN : D.length + O.length ≤ N := S.out.le
              obtain ⟨F, rfl⟩ : ∃ F, gk = F + 1 := ⟨gk - 1, by omega⟩
              obtain ⟨O1, a, hO1⟩ : ∃ O1 a, O = O1 ++ [a] := ⟨O.dropLast, O.getLast (List.ne_nil_of_length_pos hlt2), (List.dropLast_concat_getLast _).symm⟩
              obtain ⟨q, hq⟩ : ∃ q, O1.length = q := ⟨_, rfl⟩
              have hOl : O.length = q + 1 := by rw [hO1]; simp [hq]
              have S' : Hid (Srch cs N (nbs W H) ts ss.length i ts' D (a :: O1)) := S.out.swap (fun x => Iff.rfl) (fun x => by rw [hO1]; simp [or_comm]) (by rw [hO1]; simp)
              have hal : a < N := S'.out.lt a (.inr (by simp))
              have hol1 := own_cut hol (m := q) (by omega)
              rw [hOl] at hol hd1 hd2
              have hqc : q + 1 ≤ cl := own_cap hol
              have cL : wr.cell? ⟨gl, q, none⟩ = some (.int .i64 (a : Int)) := by
                have e : (O.map nv)[q]? = some (.int .i64 (a : Int)) := by rw [hO1, ← hq]; simp [nv]
                rw [hol.cellAt _ (by omega), e]
              have hol2 : wr.ownsRow w.heap.size 2 1 (.slice (some ⟨gl, 0, none⟩) q cl) q (O1.map nv) := by
                have e : (O.map nv).take q = O1.map nv := by rw [hO1, List.map_append, ← hq, show O1.length = (O1.map nv).length from by simp, List.take_left]
                rw [← e]; exact hol1
              have cS : wr.cell? ⟨gz, ss.length, none⟩ = some (.int .i64 (D.length : Int)) := by
                rw [hos.cellAt _ (by omega), List.getElem?_map, List.getElem?_append_right (by omega)]; simp [iv]
              have fS : wr.frozen? ⟨gz, ss.length, none⟩ = false := hos.frozenAt _
              have hd1' : Dis (.slice (some ⟨gt, 0, none⟩) N N) (.slice (some ⟨gl, 0, none⟩) q cl) := hd1
              have hd2' : Dis (.slice (some ⟨gz, 0, none⟩) (ss.length + 1) c3) (.slice (some ⟨gl, 0, none⟩) q cl) := hd2
              obtain ⟨hs5, hg5⟩ := hos.stored ss.length (.int .i64 ((D.length : Int) + 1))
              have ho5 := own_kept ho (u := .slice (some ⟨gz, 0, none⟩) (ss.length + 1) c3) hg5 HD3.out.symm
              have hl5 := own_kept hol2 (u := .slice (some ⟨gz, 0, none⟩) (ss.length + 1) c3) hg5 hd2'.symm
              have hb5 := hb.grown hg5 hsz (fun j e => by injection e with e; omega)
              have hz5 := hb5.size
              have e5 : ((ss ++ [(D.length : Int)]).map iv).set ss.length (.int .i64 ((D.length : Int) + 1)) = (ss ++ [((D.length + 1 : Nat) : Int)]).map iv := by
                rw [List.map_append, List.set_append_right _ _ (by simp), List.map_append]; simp [iv]
              rw [e5] at hs5
              have HO5 := Lib.hid ho5
              have HS5 := Lib.hid hs5
              have HL5 := Lib.hid hl5
              have HB5 := Lib.hid hb5
              have HD1 := Lib.hid hd1'
              have HD2 := Lib.hid hd2'
              have OO := Lib.hid (Old.own ho5)
              have OS := Lib.hid (Old.own hs5)
              have OL := Lib.hid (Old.own hl5)
              have HQ := Lib.hid hq
              have hDl : D.length ≤ N := by omega
              clear hos hol hol1 hol2 hd1 hd2 hd1' hd2' ho hb hO1 hvl hs5 ho5 hl5 hb5 e5 hg5 S hq
              rw [hOl]
              go_wp2_with (go_at_call 46; refine (neighbours_any W H a _ hW hW' hH hH' (by rw [HP.out]; exact hal)).mono ?_; rintro e w6 ⟨An, nn, cn, rfl, hn, hb6⟩)
              obtain ⟨bs, ebs⟩ : ∃ bs, nbs W H a = bs := ⟨_, rfl⟩
              rw [ebs] at hn
              have hbsN : ∀ b ∈ bs, b < N := fun b hb => by
                have := nbs_lt (W := W) (H := H) (i := a) (b := b) (by rw [HP.out]; exact hal) (ebs ▸ hb)
                rwa [HP.out] at this
              have hnn : bs.length = nn := by have := hn.1; simp at this; omega
              have BS := Lib.hid (And.intro hbsN (And.intro hnn ebs))
              have hnn4 : nn ≤ 4 := by rw [← hnn, ← ebs]; unfold nbs nb1 nb2 nb3 nb4; simp only [List.length_append]; repeat' split <;> simp
              have HO6 := Lib.hid (own_below HO5.out hb6)
              have HS6 := Lib.hid (own_below HS5.out hb6)
              have HL6 := Lib.hid (own_below HL5.out hb6)
              have HN6 := Lib.hid hn
              have HE1 := Lib.hid (Dis.of_lt hn OO.out)
              have HE2 := Lib.hid (Dis.of_lt hn OL.out)
              have HBW := Lib.hid (HB5.out.trans (hb6.mono hz5))
              have hq1 : q ≤ N := by omega
              clear hn hbsN hnn ebs cL cS fS HO5 HS5 HL5 HB5 OO OS OL hb6 hz5
              go_loopw [12, 75] (fun sl si wr => ∃ (m : Nat) (ts'' : List Int) (O' : List Nat) (Al : Option Addr) (cl : Nat), m ≤ nn ∧ si = .int .i64 m ∧ sl = .slice Al O'.length cl ∧
                  wr.ownsRow w.heap.size 2 1 (.slice (some ⟨gt, 0, none⟩) N N) N (ts''.map iv) ∧ wr.ownsRow w.heap.size 2 1 (.slice (some ⟨gz, 0, none⟩) (ss.length + 1) c3) (ss.length + 1) ((ss ++ [((D.length + 1 : Nat) : Int)]).map iv) ∧ wr.ownsRow w.heap.size 2 1 (.slice Al O'.length cl) O'.length (O'.map nv) ∧ wr.ownsRow 0 2 1 (.slice An nn cn) nn (bs.map nv) ∧
                  Dis (.slice (some ⟨gt, 0, none⟩) N N) (.slice Al O'.length cl) ∧ Dis (.slice (some ⟨gz, 0, none⟩) (ss.length + 1) c3) (.slice Al O'.length cl) ∧ Dis (.slice An nn cn) (.slice (some ⟨gt, 0, none⟩) N N) ∧ Dis (.slice An nn cn) (.slice Al O'.length cl) ∧ Below w.heap.size w wr ∧
                  O'.length ≤ N ∧ Hid (Srch cs N (nbs W H) ts ss.length i ts'' D (a :: O')) ∧ Hid (visits cs ss.length (bs.drop m) (ts'', O') = visits cs ss.length bs (ts', O1))) (fun _ i _ => nn - (intOf i).toNat)
              case atStart =>
                have e := HQ.out
                subst e
                exact ⟨0, ts', O1, _, cl, Nat.zero_le _, rfl, rfl, HO6.out, HS6.out, HL6.out, own_base HN6.out (Nat.zero_le _), HD1.out, HD2.out, HE1.out, HE2.out, HBW.out, hq1, S', rfl⟩
              case round =>
                clear HO6 HS6 HL6 HN6 HD1 HD2 HE1 HE2 HBW
                obtain ⟨m, ts'', O', Al, cl, hm, rfl, rfl, ho, hos, hol, hon, hd1, hd2, he1, he2, hb, hlN', S2, HV⟩ := hrel
                have hsz := hb.size
                by_cases hlt3 : m < nn
                · obtain ⟨gn, cn', hvn, _, hgn'⟩ := hon.form (by omega)
                  obtain ⟨rfl, rfl⟩ : An = some ⟨gn, 0, none⟩ ∧ cn = cn' := by injection hvn with h1 _ h3; exact ⟨h1, h3⟩
                  have hib : m < bs.length := by rw [BS.out.2.1]; exact hlt3
                  obtain ⟨b, eb⟩ : ∃ b, bs[m] = b := ⟨_, rfl⟩
                  have hbm : b ∈ bs := eb ▸ List.getElem_mem hib
                  have hbk : b < N := BS.out.1 b hbm
                  have hbn : Hid (b ∈ nbs W H a) := by rw [BS.out.2.2]; exact hbm
                  have cN : wr.cell? ⟨gn, m, none⟩ = some (.int .i64 (b : Int)) := by
                    rw [hon.cellAt _ (by omega), List.getElem?_map, List.getElem?_eq_getElem hib, eb]; rfl
                  obtain ⟨tb, etb⟩ : ∃ tb, ts''.getD b 0 = tb := ⟨_, rfl⟩
                  have htb : b < ts''.length := by rw [S2.out.len]; exact hbk
                  have cO : wr.cell? ⟨gt, b, none⟩ = some (.int .i64 tb) := by
                    rw [ho.cellAt _ (by omega), List.getElem?_map, List.getElem?_eq_getElem htb, ← etb, List.getD_eq_getElem?_getD, List.getElem?_eq_getElem htb]; rfl
                  have fO : wr.frozen? ⟨gt, b, none⟩ = false := ho.frozenAt _
                  have FB := Lib.hid (FN.out b wr hbk hb)
                  obtain ⟨x, ex⟩ : ∃ x, cs.getD b false = x := ⟨_, rfl⟩
                  have EX := Lib.hid ex
                  rw [ex] at FB
                  have HO := Lib.hid ho
                  have HS := Lib.hid hos
                  have HL := Lib.hid hol
                  have HON := Lib.hid hon
                  have HD1 := Lib.hid hd1
                  have HD2 := Lib.hid hd2
                  have HE1 := Lib.hid he1
                  have HE2 := Lib.hid he2
                  have HB := Lib.hid hb
                  have EB := Lib.hid eb
                  have ETB := Lib.hid etb
                  clear ho hos hol hon hd1 hd2 he1 he2 hb eb etb hvn hbm ex
                  cases x
                  · have V1 : Hid (visit cs ss.length (ts'', O') b = (ts'', O')) := visit_ne (by rw [EX.out]; simp)
                    go_wp2_with (go_at_call 30; refine FB.out.mono ?_; rintro e w5 ⟨rfl, h5⟩; obtain rfl := h5.symm)
                    go_roundw
                    case rel =>
                      refine ⟨m + 1, ts'', O', Al, cl, by omega, by go_num, rfl, HO.out, HS.out, HL.out, HON.out, HD1.out, HD2.out, HE1.out, HE2.out, HB.out, hlN', S2, ?_⟩
                      have hv := HV.out
                      rw [visits_drop hib, EB.out, V1.out] at hv
                      exact hv
                    case measure => simp [intOf]; omega
                  · by_cases hneg : tb < 0
                    · have V1 : Hid (visit cs ss.length (ts'', O') b = (ts''.set b ss.length, O' ++ [b])) := visit_eq ⟨EX.out, by rw [ETB.out]; exact hneg⟩
                      have S1 : Hid (Srch cs N (nbs W H) ts ss.length i (ts''.set b ss.length) D (a :: (O' ++ [b]))) := S2.out.put hbn.out hbk EX.out (by rw [ETB.out]; exact hneg)
                      have hlk : O'.length < N := by
                        have h1 := S1.out.le
                        simp at h1
                        omega
                      obtain ⟨ho2, hg2⟩ := HO.out.stored b (.int .i64 (ss.length : Int))
                      have HS2 := Lib.hid (own_kept HS.out (u := .slice (some ⟨gt, 0, none⟩) N N) hg2 HD3.out)
                      have HL2 := Lib.hid (own_kept HL.out (u := .slice (some ⟨gt, 0, none⟩) N N) hg2 HD1.out.symm)
                      have HN2 := Lib.hid (own_kept HON.out (u := .slice (some ⟨gt, 0, none⟩) N N) hg2 HE1.out)
                      have hb2 := HB.out.grown hg2 hsz (fun j e => by injection e with e; omega)
                      have hz2 := hb2.size
                      have HO2 := Lib.hid ho2
                      have HB2 := Lib.hid hb2
                      clear ho2 hb2 hg2 HO HS HL HON HB
                      go_wp2_with (first
                        | (go_at_call 30; refine FB.out.mono ?_; rintro e w5 ⟨rfl, h5⟩; obtain rfl := h5.symm)
                        | (at_builtin; refine wpList_append_one (W := wr.setCell ⟨gt, b, none⟩ (.int .i64 (ss.length : Int))) rfl _ _ _ rfl w.heap.size 2 (.int .i64 0) 8 Try.underlying34 intInfo rfl Al O'.length cl _ rfl HL2.out (.int .i64 (b : Int)) _ rfl (by simp) rfl (by unfold maxLen; omega) (by omega) hz2 ?_; intro A3 c3 w3 ho3 hg3 hd3))
                      go_roundw
                      case rel =>
                        refine ⟨m + 1, ts''.set b ss.length, O' ++ [b], A3, c3, by omega, by go_num, by simp, ?_, own_kept HS2.out hg3 HD2.out, ?_, own_kept HN2.out hg3 HE2.out, ?_, ?_, HE1.out, ?_, HB2.out.grown hg3 hz2 (fun j e => (HL2.out.lt j e).1), by simp; omega, S1, ?_⟩
                        · rw [List.map_set]; exact own_kept HO2.out hg3 HD1.out
                        · rw [List.length_append, List.map_append]; exact ho3
                        · rw [List.length_append]; exact (hd3 _ (Old.own HO2.out) HD1.out.symm).symm
                        · rw [List.length_append]; exact (hd3 _ (Old.own HS2.out) HD2.out.symm).symm
                        · rw [List.length_append]; exact (hd3 _ (Old.own HN2.out) HE2.out.symm).symm
                        · have hv := HV.out
                          rw [visits_drop hib, EB.out, V1.out] at hv
                          exact hv
                      case measure => simp [intOf]; omega
                    · have V1 : Hid (visit cs ss.length (ts'', O') b = (ts'', O')) := visit_ne (by rw [ETB.out]; exact fun h => hneg h.2)
                      go_wp2_with (go_at_call 30; refine FB.out.mono ?_; rintro e w5 ⟨rfl, h5⟩; obtain rfl := h5.symm)
                      go_roundw
                      case rel =>
                        refine ⟨m + 1, ts'', O', Al, cl, by omega, by go_num, rfl, HO.out, HS.out, HL.out, HON.out, HD1.out, HD2.out, HE1.out, HE2.out, HB.out, hlN', S2, ?_⟩
                        have hv := HV.out
                        rw [visits_drop hib, EB.out, V1.out] at hv
                        exact hv
                      case measure => simp [intOf]; omega
                · obtain rfl : m = nn := by omega
                  have S3 : Hid (Srch cs N (nbs W H) ts ss.length i ts'' (D ++ [a]) O') := by
                    have h := S'.out.done (fun b hb => BS.out.1 b (BS.out.2.2 ▸ hb))
                    have hv := HV.out
                    rw [← BS.out.2.1, List.drop_length] at hv
                    rw [BS.out.2.2, ← hv] at h
                    exact h
                  have HO := Lib.hid ho
                  have HS := Lib.hid hos
                  have HL := Lib.hid hol
                  have HD1 := Lib.hid hd1
                  have HD2 := Lib.hid hd2
                  clear ho hos hol hon hd1 hd2 he1 he2
                  go_wp2
                  go_roundg F
                  case measure => omega
                  case rel => exact ⟨ts'', D ++ [a], O', Al, cl, rfl, HO.out, by rw [List.length_append]; exact HS.out, HL.out, HD1.out, HD2.out, hb, S3, by simp; omega, hlN'⟩
            · obtain rfl : O = [] := List.length_eq_zero_iff.1 (by omega)
              have G1 : Hid (Grp cs N (nbs W H) (i + 1) ts' (ss ++ [(D.length : Int)])) := .more G.out C0.out S.out
              have HO := Lib.hid ho
              have HS := Lib.hid hos
              clear ho hos hol hd1 hd2
              go_wp2
              go_roundw
              case rel =>
                refine ⟨i + 1, ts', ss ++ [(D.length : Int)], some ⟨gz, 0, none⟩, c3, by omega, by go_num, by simp, HO.out, ?_, ?_, hb, G1⟩
                · rw [List.length_append]; exact HS.out
                · rw [List.length_append]; exact HD3.out.symm
              case measure => simp [intOf]; omega
    · obtain rfl : i = N := by omega
      have HO := Lib.hid ho
      have HS := Lib.hid hos
      have HDS := Lib.hid hds
      clear ho hos hds
      go_wp2
      go_ret2
      exact ⟨ts, ss, Ao, As, _, cz, rfl, G, HO.out, HS.out, HDS.out, hb⟩

end Go.Proofs.Ytejmpijihmmajaa

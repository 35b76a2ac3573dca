/- Walk: the reference's groups of a field. Conditions: the field is valid. -/
import Derived.Test.YtbkacmklgkgamaaVd
import Derived.Test.YtbkacmklgkgamaaPg
namespace Go.Proofs.Ytbkacmklgkgamaa
open Go.RowKit

theorem own_cut {w : World} {base g n m c : Nat} {e : TypeId} {xs : List Value} (h : w.ownsRow base e 1 (.slice (some ⟨g, 0, none⟩) n c) n xs) (hm : m ≤ n) : w.ownsRow base e 1 (.slice (some ⟨g, 0, none⟩) m c) m (xs.take m) := by
  have h1 := h.1
  rcases h.2 with ⟨h', _⟩ | ⟨g', cap, cur, hv, hb, hh, hn, hx, hs, ht⟩
  · simp at h'
  · refine ⟨by rw [List.length_take]; omega, .inr ⟨g', cap, cur, ?_, hb, hh, by omega, hx, hs, ?_⟩⟩
    · simp only [Value.slice.injEq, Option.some.injEq, Addr.mk.injEq, and_true, true_and] at hv ⊢
      exact ⟨hv.1, hv.2⟩
    · rw [← ht, List.take_take]
      congr 1
      omega

theorem own_cap {w : World} {base g n c : Nat} {e : TypeId} {xs : List Value} (h : w.ownsRow base e 1 (.slice (some ⟨g, 0, none⟩) n c) n xs) : n ≤ c := by
  rcases h.2 with ⟨h', _⟩ | ⟨g', cap, cur, hv, hb, hh, hn, hx, hs, ht⟩
  · simp at h'
  · injection hv with _ _ h3
    omega

theorem rep_iv_succ (k : Nat) : (List.replicate (k + 1) (-1 : Int)).map iv = (List.replicate k (-1 : Int)).map iv ++ [.int .i64 (-1)] := by
  rw [List.replicate_succ', List.map_append]; rfl

set_option maxRecDepth 100000 in
set_option maxHeartbeats 4000000 in
theorem l07Groups_any (W H N : Nat) (A : Option Addr) (c g : Nat) (cs : List Bool) (w : World) (hW : 1 ≤ W) (hW' : W ≤ 16) (hH : 1 ≤ H) (hH' : H ≤ 16) (hl : cs.length = N) (hP : W * H = N)
    (hb : Blk w g 31 #[.int .i64 W, .int .i64 H, .slice A N c]) (hA : Rd w w.heap.size 1 A N (cs.map bv)) :
    Calls Try.prog 62 #[.pointer (some ⟨g, 0, none⟩), .bool true] w fun e w' => ∃ (ts sz : List Int) (A' As : Option Addr) (c' cz : Nat), e = .returned (.tuple #[.slice A' N c', .slice As sz.length cz]) ∧
      Hid (Grp cs N (nbs W H) N ts sz) ∧ w'.ownsRow w.heap.size 2 1 (.slice A' N c') N (ts.map iv) ∧ w'.ownsRow w.heap.size 2 1 (.slice As sz.length cz) sz.length (sz.map iv) ∧
      Dis (.slice A' N c') (.slice As sz.length cz) ∧ Below w.heap.size w w' := by
  have hgl := hb.lt
  have k0 : ∀ w', Below w.heap.size w w' → w'.cell? ⟨g, 0, none⟩ = some (.int .i64 W) := fun w' h => (h.cell hgl).trans (hb.cell 0)
  have k1 : ∀ w', Below w.heap.size w w' → w'.cell? ⟨g, 1, none⟩ = some (.int .i64 H) := fun w' h => (h.cell hgl).trans (hb.cell 1)
  have k2 : ∀ w', Below w.heap.size w w' → w'.cell? ⟨g, 2, none⟩ = some (.slice A N c) := fun w' h => (h.cell hgl).trans (hb.cell 2)
  have K0 := Lib.hid k0
  have K1 := Lib.hid k1
  have K2 := Lib.hid k2
  have d0 : (w.alloc (.cells #[] 2)).cell? ⟨g, 2, none⟩ = some (.slice A N c) := k2 _ ((Below.refl _ _).alloc (Nat.le_refl _) _)
  clear k0 k1 k2 hb
  have hN256 : N ≤ 256 := by have := Nat.mul_le_mul hW' hH'; omega
  have hN1 : 1 ≤ N := by rw [← hP]; exact Nat.mul_pos hW hH
  have HN := Lib.hid hl
  have HP := Lib.hid hP
  clear hl hP
  go_enter Try.func62, Try.ntmps62
  go_wp2
  go_loopw [6, 20] (fun so si wr => ∃ (k : Nat) (Ao : Option Addr) (co : Nat), k ≤ N ∧ si = .int .i64 k ∧ so = .slice Ao k co ∧
      wr.ownsRow w.heap.size 2 1 (.slice Ao k co) k ((List.replicate k (-1 : Int)).map iv) ∧ Below w.heap.size w wr) (fun _ i _ => N - (intOf i).toNat)
  case atStart =>
    have b0 : Blk (w.alloc (.cells #[] 2)) w.heap.size 2 #[] := Blk.new w _ _
    exact ⟨0, _, 0, Nat.zero_le _, rfl, rfl, b0.own (n := 0) (size := 1) (Nat.le_refl _) rfl (by unfold maxLen; omega), (Below.refl _ _).alloc (Nat.le_refl _) _⟩
  case round =>
    clear d0
    obtain ⟨k, Ao, co, hk, rfl, rfl, ho, hb⟩ := hrel
    have hsz := hb.size
    by_cases hlt : k < N
    · have HO := Lib.hid ho
      clear ho
      go_wp2_with (at_builtin; refine wpList_append_one (W := wr) rfl _ _ _ rfl w.heap.size 2 (.int .i64 0) 8 Try.underlying47 intInfo rfl Ao k co _ rfl HO.out (.int .i64 (-1)) _ rfl (by simp) rfl (by unfold maxLen; omega) (by omega) hsz ?_; intro A1 c1 w1 ho1 hg1 hd1)
      go_roundw
      case rel => exact ⟨k + 1, A1, c1, by omega, by go_num, rfl, by rw [rep_iv_succ]; exact ho1, hb.grown hg1 hsz (fun j e => (HO.out.lt j e).1)⟩
      case measure => simp [intOf]; omega
    · obtain rfl : k = N := by omega
      have d2 := K2.out (wr.alloc (.cells #[] 2)) (hb.alloc hsz _)
      have b1 : Hid (Blk (wr.alloc (.cells #[] 2)) wr.heap.size 2 #[]) := Blk.new _ _ _
      have HO := Lib.hid ho
      have HB := Lib.hid hb
      have G0 : Hid (Grp cs k (nbs W H) 0 (List.replicate k (-1)) []) := Grp.zero
      clear ho hb
      go_wp2
      go_loopw [7, 32] (fun sz si wr => ∃ (i : Nat) (ts ss : List Int) (As : Option Addr) (cz : Nat), i ≤ k ∧ si = .int .i64 i ∧ sz = .slice As ss.length cz ∧
          wr.ownsRow w.heap.size 2 1 (.slice Ao k co) k (ts.map iv) ∧ wr.ownsRow w.heap.size 2 1 (.slice As ss.length cz) ss.length (ss.map iv) ∧ Dis (.slice Ao k co) (.slice As ss.length cz) ∧
          Below w.heap.size w wr ∧ Hid (Grp cs k (nbs W H) i ts ss)) (fun _ i _ => k - (intOf i).toNat)
      case atStart =>
        refine ⟨0, _, [], _, 0, Nat.zero_le _, rfl, rfl, HO.out.alloc _, b1.out.own (n := 0) (size := 1) hsz rfl (by unfold maxLen; omega), fun j h h' => ?_, HB.out.alloc hsz _, G0⟩
        have := (HO.out.lt j h).2
        simp [Value.ownBlock] at h'
        omega
      case round =>
        clear HO HB d2 b1 G0 hsz
        obtain ⟨i, ts, ss, As, cz, hi, rfl, rfl, ho, hos, hds, hb, G⟩ := hrel
        have hsz := hb.size
        have I := Lib.hid G.out.inv
        have hss : ss.length ≤ i := I.out.num
        by_cases hlt : i < k
        · obtain ⟨gt, co', hvt, _, hgt'⟩ := ho.form (by omega)
          obtain ⟨rfl, rfl⟩ : Ao = some ⟨gt, 0, none⟩ ∧ co = co' := by injection hvt with h1 _ h3; exact ⟨h1, h3⟩
          obtain ⟨b0, off, rfl, hbb, hc⟩ := hA.2 (by omega)
          have hic : i < cs.length := by rw [HN.out]; exact hlt
          have cC : wr.cell? ⟨b0, off + i, none⟩ = some (.bool (cs.getD i false)) := by
            refine (hb.cell hbb).trans (hc i _ ?_)
            rw [List.getElem?_map, List.getElem?_eq_getElem hic, List.getD_eq_getElem?_getD, List.getElem?_eq_getElem hic]; rfl
          obtain ⟨t, et⟩ : ∃ t, ts.getD i 0 = t := ⟨_, rfl⟩
          have hta : i < ts.length := by rw [I.out.len]; exact hlt
          have cT : wr.cell? ⟨gt, i, none⟩ = some (.int .i64 t) := by
            rw [ho.cellAt _ (by omega), List.getElem?_map, List.getElem?_eq_getElem hta, ← et, List.getD_eq_getElem?_getD, List.getElem?_eq_getElem hta]; rfl
          have fT : wr.frozen? ⟨gt, i, none⟩ = false := ho.frozenAt _
          have d2 := K2.out wr hb
          have ET := Lib.hid et
          have HO := Lib.hid ho
          have HS := Lib.hid hos
          have HDS := Lib.hid hds
          have HB := Lib.hid hb
          have hgt0 : w.heap.size ≤ gt := (ho.lt gt rfl).1
          clear hc ho hos hds hb et hvt
          by_cases ht : 0 ≤ t
          · have G1 : Hid (Grp cs k (nbs W H) (i + 1) ts ss) := .skip G.out (by rw [ET.out]; omega)
            go_wp2
            go_roundw
            case rel => exact ⟨i + 1, ts, ss, As, cz, by omega, by go_num, rfl, HO.out, HS.out, HDS.out, HB.out, G1⟩
            case measure => simp [intOf]; omega
          · cases hcell : cs.getD i false
            · rw [hcell] at cC
              have G1 : Hid (Grp cs k (nbs W H) (i + 1) ts ss) := .skip G.out (by rw [hcell]; simp)
              clear hcell
              go_wp2
              go_roundw
              case rel => exact ⟨i + 1, ts, ss, As, cz, by omega, by go_num, rfl, HO.out, HS.out, HDS.out, HB.out, G1⟩
              case measure => simp [intOf]; omega
            · rw [hcell] at cC
              have S0 : Hid (Srch cs k (nbs W H) ts ss.length i (ts.set i ss.length) [] [i]) := .start I.out.len (by omega) hlt I.out.fresh (by rw [ET.out]; omega)
              have C0 : Hid (cs.getD i false = true ∧ ts.getD i 0 < 0) := ⟨hcell, by rw [ET.out]; omega⟩
              obtain ⟨ho2, hg2⟩ := HO.out.stored i (.int .i64 (ss.length : Int))
              have hs2 := own_kept HS.out (u := .slice (some ⟨gt, 0, none⟩) k co) hg2 HDS.out.symm
              have hb2 := HB.out.grown hg2 hsz (fun j e => by injection e with e; omega)
              have hz2 := hb2.size
              have bl : Hid (Blk ((wr.setCell ⟨gt, i, none⟩ (.int .i64 (ss.length : Int))).alloc (.cells #[.int .i64 (i : Int)] 2)) wr.heap.size 2 #[.int .i64 (i : Int)]) := Blk.at_ _ _ _ (by simp [World.setCell])
              have HO2 := Lib.hid ho2
              have HS2 := Lib.hid hs2
              have HB2 := Lib.hid hb2
              clear hcell ho2 hs2 hb2 hg2 HO HS HB I
              go_wp2
              go_loopw [10, 11] (fun sl sk wr => ∃ (j : Nat) (ts' : List Int) (l : List Nat) (Al : Option Addr) (cl : Nat), j ≤ l.length ∧ sk = .int .i64 j ∧ sl = .slice Al l.length cl ∧
                  wr.ownsRow w.heap.size 2 1 (.slice (some ⟨gt, 0, none⟩) k co) k (ts'.map iv) ∧ wr.ownsRow w.heap.size 2 1 (.slice As ss.length cz) ss.length (ss.map iv) ∧ wr.ownsRow w.heap.size 2 1 (.slice Al l.length cl) l.length (l.map nv) ∧
                  Dis (.slice (some ⟨gt, 0, none⟩) k co) (.slice Al l.length cl) ∧ Dis (.slice As ss.length cz) (.slice Al l.length cl) ∧ Below w.heap.size w wr ∧
                  Hid (Srch cs k (nbs W H) ts ss.length i ts' (l.take j) (l.drop j))) (fun _ i _ => k - (intOf i).toNat)
              case atStart =>
                refine ⟨0, _, [i], _, 1, Nat.zero_le _, rfl, rfl, ?_, HS2.out.alloc _, bl.out.own (n := 1) (size := 1) hsz rfl (by unfold maxLen; omega), fun j h h' => ?_, fun j h h' => ?_, HB2.out.alloc hz2 _, S0⟩
                · rw [List.map_set]; exact HO2.out.alloc _
                · have := (HO2.out.lt j h).2
                  simp [Value.ownBlock] at h' this
                  omega
                · have := (HS2.out.lt j h).2
                  simp [Value.ownBlock] at h' this
                  omega
              case round =>
                clear HO2 HS2 HB2 bl S0 hz2 cC cT fT d2
                obtain ⟨j, ts', l, Al, cl, hj, rfl, rfl, ho, hos, hol, hd1, hd2, hb, S⟩ := hrel
                have hsz := hb.size
                have hlN : l.length ≤ k := by have := S.out.le; simp at this; omega
                by_cases hlt2 : j < l.length
                · obtain ⟨gl, cl', hvl, _, hgl'⟩ := hol.form (by omega)
                  obtain ⟨rfl, rfl⟩ : Al = some ⟨gl, 0, none⟩ ∧ cl = cl' := by injection hvl with h1 _ h3; exact ⟨h1, h3⟩
                  obtain ⟨a, ea⟩ : ∃ a, l[j] = a := ⟨_, rfl⟩
                  obtain ⟨pre, O, hpre, hO, hle⟩ : ∃ pre O, l.take j = pre ∧ l.drop j = a :: O ∧ l = pre ++ a :: O := ⟨l.take j, l.drop (j + 1), rfl, by rw [List.drop_eq_getElem_cons hlt2, ea], by rw [← ea, ← List.drop_eq_getElem_cons hlt2, List.take_append_drop]⟩
                  have hpl : pre.length = j := by rw [← hpre, List.length_take]; omega
                  rw [hpre, hO] at S
                  have hal : a < k := S.out.lt a (.inr (by simp))
                  have cL : wr.cell? ⟨gl, j, none⟩ = some (.int .i64 (a : Int)) := by
                    rw [hol.cellAt _ (by omega), List.getElem?_map, List.getElem?_eq_getElem hlt2, ea]; rfl
                  have d0 := K0.out wr hb
                  have d1 := K1.out wr hb
                  have HLE := Lib.hid hle
                  have HO := Lib.hid ho
                  have HS := Lib.hid hos
                  have HL := Lib.hid hol
                  have HD1 := Lib.hid hd1
                  have HD2 := Lib.hid hd2
                  have OO := Lib.hid (Old.own ho)
                  have OL := Lib.hid (Old.own hol)
                  clear ho hos hol hd1 hd2 ea hvl hpre hO hle
                  go_wp2
                  go_still_tail 12, (by kernel_rfl)
                  go_wp2_with (go_at_call 77; refine (beside_any W H a _ hW hW' hH hH' (by rw [HP.out]; exact hal)).mono ?_; rintro e w1 ⟨An, nn, cn, rfl, hn, hb1⟩)
                  obtain ⟨bs, ebs⟩ : ∃ bs, nbs W H a = bs := ⟨_, rfl⟩
                  rw [ebs] at hn
                  have hbsN : ∀ b ∈ bs, b < k := fun b hb => by
                    have := nbs_lt (W := W) (H := H) (i := a) (b := b) (by rw [HP.out]; exact hal) (ebs ▸ hb)
                    rwa [HP.out] at this
                  have hnn : bs.length = nn := by have := hn.1; simp at this; omega
                  have BS := Lib.hid (And.intro hbsN (And.intro hnn ebs))
                  have hnn4 : nn ≤ 4 := by rw [← hnn, ← ebs]; unfold nbs nb1 nb2 nb3 nb4; simp only [List.length_append]; repeat' split <;> simp
                  have HO1 := Lib.hid (own_below (w := wr.drew) HO.out hb1)
                  have HS1 := Lib.hid (own_below (w := wr.drew) HS.out hb1)
                  have HL1 := Lib.hid (own_below (w := wr.drew) HL.out hb1)
                  have HN1 := Lib.hid hn
                  have HE1 := Lib.hid (Dis.of_lt hn OO.out)
                  have HE2 := Lib.hid (Dis.of_lt hn OL.out)
                  have HBW := Lib.hid (hb.drew.trans (hb1.mono hsz))
                  have R0 : Hid (pre ++ a :: O = l ∧ l.length ≤ k) := ⟨HLE.out.symm, hlN⟩
                  clear hn hbsN hnn ebs cL d0 d1 HO HS HL OO OL hb1 hb hsz
                  go_loopw [10, 80] (fun sl si wr => ∃ (m : Nat) (ts'' : List Int) (O' : List Nat) (l' : List Nat) (Al : Option Addr) (cl : Nat), m ≤ nn ∧ si = .int .i64 m ∧ l' = pre ++ a :: O' ∧ sl = .slice Al l'.length cl ∧
                      wr.ownsRow w.heap.size 2 1 (.slice (some ⟨gt, 0, none⟩) k co) k (ts''.map iv) ∧ wr.ownsRow w.heap.size 2 1 (.slice As ss.length cz) ss.length (ss.map iv) ∧ wr.ownsRow w.heap.size 2 1 (.slice Al l'.length cl) l'.length (l'.map nv) ∧ wr.ownsRow 0 2 1 (.slice An nn cn) nn (bs.map nv) ∧
                      Dis (.slice (some ⟨gt, 0, none⟩) k co) (.slice Al l'.length cl) ∧ Dis (.slice As ss.length cz) (.slice Al l'.length cl) ∧ Dis (.slice An nn cn) (.slice (some ⟨gt, 0, none⟩) k co) ∧ Dis (.slice An nn cn) (.slice Al l'.length cl) ∧ Below w.heap.size w wr ∧
                      l'.length ≤ k ∧ Hid (Srch cs k (nbs W H) ts ss.length i ts'' pre (a :: O')) ∧ Hid (visits cs ss.length (bs.drop m) (ts'', O') = visits cs ss.length bs (ts', O))) (fun _ i _ => nn - (intOf i).toNat)
                  case atStart => exact ⟨0, ts', O, l, _, cl, Nat.zero_le _, rfl, HLE.out, rfl, HO1.out, HS1.out, HL1.out, own_base HN1.out (Nat.zero_le _), HD1.out, HD2.out, HE1.out, HE2.out, HBW.out, hlN, S, rfl⟩
                  case round =>
                    clear HO1 HS1 HL1 HN1 HD1 HD2 HE1 HE2 HBW
                    obtain ⟨m, ts'', O', l', Al, cl, hm, rfl, hl', rfl, ho, hos, hol, hon, hd1, hd2, he1, he2, hb, hlN', S', HV⟩ := hrel
                    have hsz := hb.size
                    have HL' := Lib.hid hl'
                    clear hl'
                    by_cases hlt3 : m < nn
                    · obtain ⟨gn, cn', hvn, _, hgn'⟩ := hon.form (by omega)
                      obtain ⟨rfl, rfl⟩ : An = some ⟨gn, 0, none⟩ ∧ cn = cn' := by injection hvn with h1 _ h3; exact ⟨h1, h3⟩
                      have hib : m < bs.length := by rw [BS.out.2.1]; exact hlt3
                      obtain ⟨b, eb⟩ : ∃ b, bs[m] = b := ⟨_, rfl⟩
                      have hbm : b ∈ bs := eb ▸ List.getElem_mem hib
                      have hbk : b < k := BS.out.1 b hbm
                      have hbn : Hid (b ∈ nbs W H a) := by rw [BS.out.2.2]; exact hbm
                      have cN : wr.cell? ⟨gn, m, none⟩ = some (.int .i64 (b : Int)) := by
                        rw [hon.cellAt _ (by omega), List.getElem?_map, List.getElem?_eq_getElem hib, eb]; rfl
                      have hbc : b < cs.length := by rw [HN.out]; exact hbk
                      obtain ⟨b0', off', hb0, hbb', hc⟩ := hA.2 (by omega)
                      obtain ⟨rfl, rfl⟩ : b0 = b0' ∧ off = off' := by injection hb0 with h; injection h with h1 h2 _; exact ⟨h1, h2⟩
                      have cC : wr.cell? ⟨b0, off + b, none⟩ = some (.bool (cs.getD b false)) := by
                        refine (hb.cell hbb).trans (hc b _ ?_)
                        rw [List.getElem?_map, List.getElem?_eq_getElem hbc, List.getD_eq_getElem?_getD, List.getElem?_eq_getElem hbc]; rfl
                      obtain ⟨tb, etb⟩ : ∃ tb, ts''.getD b 0 = tb := ⟨_, rfl⟩
                      have htb : b < ts''.length := by rw [S'.out.len]; exact hbk
                      have cO : wr.cell? ⟨gt, b, none⟩ = some (.int .i64 tb) := by
                        rw [ho.cellAt _ (by omega), List.getElem?_map, List.getElem?_eq_getElem htb, ← etb, List.getD_eq_getElem?_getD, List.getElem?_eq_getElem htb]; rfl
                      have fO : wr.frozen? ⟨gt, b, none⟩ = false := ho.frozenAt _
                      have d2 := K2.out wr hb
                      have HO := Lib.hid ho
                      have HS := Lib.hid hos
                      have HL := Lib.hid hol
                      have HON := Lib.hid hon
                      have HD1 := Lib.hid hd1
                      have HD2 := Lib.hid hd2
                      have HE1 := Lib.hid he1
                      have HE2 := Lib.hid he2
                      have HB := Lib.hid hb
                      have EB := Lib.hid eb
                      have ETB := Lib.hid etb
                      clear hc ho hos hol hon hd1 hd2 he1 he2 hb eb etb hvn hbm hb0 hbb'
                      cases hcell : cs.getD b false
                      · rw [hcell] at cC
                        have V1 : Hid (visit cs ss.length (ts'', O') b = (ts'', O')) := visit_ne (by rw [hcell]; simp)
                        clear hcell
                        go_wp2
                        go_quiet (fail)
                        go_wp2
                        go_roundw
                        case rel =>
                          refine ⟨m + 1, ts'', O', l', Al, cl, by omega, by go_num, HL'.out, rfl, HO.out, HS.out, HL.out, HON.out, HD1.out, HD2.out, HE1.out, HE2.out, below_drewN HB.out _, hlN', S', ?_⟩
                          have hv := HV.out
                          rw [visits_drop hib, EB.out, V1.out] at hv
                          exact hv
                        case measure => simp [intOf]; omega
                      · rw [hcell] at cC
                        by_cases hneg : tb < 0
                        · have V1 : Hid (visit cs ss.length (ts'', O') b = (ts''.set b ss.length, O' ++ [b])) := visit_eq ⟨hcell, by rw [ETB.out]; exact hneg⟩
                          have S1 : Hid (Srch cs k (nbs W H) ts ss.length i (ts''.set b ss.length) pre (a :: (O' ++ [b]))) := S'.out.put hbn.out hbk hcell (by rw [ETB.out]; exact hneg)
                          have hlk : l'.length < k := by
                            have h1 := S1.out.le
                            rw [HL'.out]
                            simp at h1 ⊢
                            omega
                          have hne : ¬ gn = gt := fun e => HE1.out gn rfl (by rw [e]; rfl)
                          clear hcell
                          go_wp2
                          go_quiet (fail)
                          generalize hw1 : World.drewN wr _ = w1
                          have cN1 : w1.cell? ⟨gn, m, none⟩ = some (.int .i64 (b : Int)) := hw1 ▸ cN
                          have cO1 : w1.cell? ⟨gt, b, none⟩ = some (.int .i64 tb) := hw1 ▸ cO
                          have fO1 : w1.frozen? ⟨gt, b, none⟩ = false := hw1 ▸ fO
                          have ho1 : w1.ownsRow w.heap.size 2 1 (.slice (some ⟨gt, 0, none⟩) k co) k (ts''.map iv) := hw1 ▸ HO.out
                          have hs1 : w1.ownsRow w.heap.size 2 1 (.slice As ss.length cz) ss.length (ss.map iv) := hw1 ▸ HS.out
                          have hl1 : w1.ownsRow w.heap.size 2 1 (.slice Al l'.length cl) l'.length (l'.map nv) := hw1 ▸ HL.out
                          have hn1 : w1.ownsRow 0 2 1 (.slice (some ⟨gn, 0, none⟩) nn cn) nn (bs.map nv) := hw1 ▸ HON.out
                          have hb1 : Below w.heap.size w w1 := hw1 ▸ below_drewN HB.out _
                          clear hw1 cN cO fO d2 cC HO HS HL HON HB
                          obtain ⟨ho2, hg2⟩ := ho1.stored b (.int .i64 (ss.length : Int))
                          have HS2 := Lib.hid (own_kept hs1 (u := .slice (some ⟨gt, 0, none⟩) k co) hg2 HDS.out.symm)
                          have HL2 := Lib.hid (own_kept hl1 (u := .slice (some ⟨gt, 0, none⟩) k co) hg2 HD1.out.symm)
                          have HN2 := Lib.hid (own_kept hn1 (u := .slice (some ⟨gt, 0, none⟩) k co) hg2 HE1.out)
                          have hb2 := hb1.grown hg2 hb1.size (fun j e => by injection e with e; omega)
                          have hz2 := hb2.size
                          have HO2 := Lib.hid ho2
                          have HB2 := Lib.hid hb2
                          clear ho1 hs1 hl1 hn1 hb1 ho2 hb2 hg2
                          go_wp2_with (at_builtin; refine wpList_append_one (W := w1.setCell ⟨gt, b, none⟩ (.int .i64 (ss.length : Int))) rfl _ _ _ rfl w.heap.size 2 (.int .i64 0) 8 Try.underlying47 intInfo rfl Al l'.length cl _ rfl HL2.out (.int .i64 (b : Int)) _ rfl (by simp) rfl (by unfold maxLen; omega) (by omega) hz2 ?_; intro A3 c3 w3 ho3 hg3 hd3)
                          go_roundw
                          case rel =>
                            refine ⟨m + 1, ts''.set b ss.length, O' ++ [b], l' ++ [b], A3, c3, by omega, by go_num, by rw [HL'.out]; simp, by simp, ?_, own_kept HS2.out hg3 HD2.out, ?_, own_kept HN2.out hg3 HE2.out, ?_, ?_, HE1.out, ?_, HB2.out.grown hg3 hz2 (fun j e => (HL2.out.lt j e).1), by simp; omega, S1, ?_⟩
                            · rw [List.map_set]; exact own_kept HO2.out hg3 HD1.out
                            · rw [List.length_append, List.map_append]; exact ho3
                            · rw [List.length_append]; exact (hd3 _ (Old.own HO2.out) HD1.out.symm).symm
                            · rw [List.length_append]; exact (hd3 _ (Old.own HS2.out) HD2.out.symm).symm
                            · rw [List.length_append]; exact (hd3 _ (Old.own HN2.out) HE2.out.symm).symm
                            · have hv := HV.out
                              rw [visits_drop hib, EB.out, V1.out] at hv
                              exact hv
                          case measure => simp [intOf]; omega
                        · have V1 : Hid (visit cs ss.length (ts'', O') b = (ts'', O')) := visit_ne (by rw [ETB.out]; exact fun h => hneg h.2)
                          clear hcell
                          go_wp2
                          go_quiet (fail)
                          go_wp2
                          go_roundw
                          case rel =>
                            refine ⟨m + 1, ts'', O', l', Al, cl, by omega, by go_num, HL'.out, rfl, HO.out, HS.out, HL.out, HON.out, HD1.out, HD2.out, HE1.out, HE2.out, below_drewN HB.out _, hlN', S', ?_⟩
                            have hv := HV.out
                            rw [visits_drop hib, EB.out, V1.out] at hv
                            exact hv
                          case measure => simp [intOf]; omega
                    · obtain rfl : m = nn := by omega
                      have S2 : Hid (Srch cs k (nbs W H) ts ss.length i ts'' (pre ++ [a]) O') := by
                        have h := S.out.done (fun b hb => BS.out.1 b (BS.out.2.2 ▸ hb))
                        have hv := HV.out
                        rw [← BS.out.2.1, List.drop_length] at hv
                        rw [BS.out.2.2, ← hv] at h
                        exact h
                      have HO := Lib.hid ho
                      have HS := Lib.hid hos
                      have HL := Lib.hid hol
                      have HD1 := Lib.hid hd1
                      have HD2 := Lib.hid hd2
                      clear ho hos hol hon hd1 hd2 he1 he2
                      have hjl : j < l'.length := by rw [HL'.out]; simp; omega
                      go_wp2
                      go_roundw
                      case rel =>
                        refine ⟨j + 1, ts'', l', Al, cl, by omega, by go_num, rfl, HO.out, HS.out, HL.out, HD1.out, HD2.out, hb, ?_⟩
                        have e1 : l'.take (j + 1) = pre ++ [a] := by rw [HL'.out, ← hpl, show pre ++ a :: O' = (pre ++ [a]) ++ O' from by simp, show pre.length + 1 = (pre ++ [a]).length from by simp, List.take_left]
                        have e2 : l'.drop (j + 1) = O' := by rw [HL'.out, ← hpl, show pre ++ a :: O' = (pre ++ [a]) ++ O' from by simp, show pre.length + 1 = (pre ++ [a]).length from by simp, List.drop_left]
                        rw [e1, e2]
                        exact S2
                      case measure => simp [intOf]; omega
                · obtain rfl : j = l.length := by omega
                  have S3 : Hid (Srch cs k (nbs W H) ts ss.length i ts' l []) := by
                    have h := S.out
                    rw [List.take_length, List.drop_length] at h
                    exact h
                  have G1 : Hid (Grp cs k (nbs W H) (i + 1) ts' (ss ++ [(l.length : Int)])) := .more G.out C0.out S3.out
                  have HO := Lib.hid ho
                  have HS := Lib.hid hos
                  clear ho hos hol hd1 hd2
                  go_wp2_with (at_builtin; refine wpList_append_one (W := wr) rfl _ _ _ rfl w.heap.size 2 (.int .i64 0) 8 Try.underlying47 intInfo rfl As ss.length cz _ rfl HS.out (.int .i64 (l.length : Int)) _ rfl (by simp) rfl (by unfold maxLen; omega) (by omega) hsz ?_; intro A3 c3 w3 ho3 hg3 hd3)
                  go_roundw
                  case rel =>
                    refine ⟨i + 1, ts', ss ++ [(l.length : Int)], A3, c3, by omega, by go_num, by simp, own_kept HO.out hg3 HDS.out, ?_, ?_, hb.grown hg3 hsz (fun j e => (HS.out.lt j e).1), G1⟩
                    · rw [List.length_append, List.map_append]; exact ho3
                    · rw [List.length_append]; exact (hd3 _ (Old.own HO.out) HDS.out.symm).symm
                  case measure => simp [intOf]; omega
        · obtain rfl : i = k := by omega
          have HO := Lib.hid ho
          have HS := Lib.hid hos
          have HDS := Lib.hid hds
          clear ho hos hds
          go_wp2
          go_ret2
          exact ⟨ts, ss, Ao, As, co, cz, rfl, G, HO.out, HS.out, HDS.out, hb⟩
end Go.Proofs.Ytbkacmklgkgamaa

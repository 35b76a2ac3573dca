/- Walk: the reference's burning of a field, a queue. Conditions: the field is valid. -/
import Derived.Test.YtoclpjhhjkcejaaVd
import Derived.Test.YtoclpjhhjkcejaaPb
namespace Go.Proofs.Ytoclpjhhjkcejaa
open Go.RowKit

def burnsAt (cs : List Bool) (W i : Nat) : Bool := decide (i < W) && cs.getD i false
def ts0 (cs : List Bool) (W k : Nat) : List Int := (List.range k).map fun i => if burnsAt cs W i then 0 else -1
def l0 (cs : List Bool) (W k : Nat) : List Nat := (List.range k).filter (burnsAt cs W)
theorem ts0_succ_yes {cs : List Bool} {W k : Nat} (h : burnsAt cs W k = true) : (ts0 cs W (k + 1)).map iv = (ts0 cs W k).map iv ++ [.int .i64 0] ∧ (l0 cs W (k + 1)).map nv = (l0 cs W k).map nv ++ [.int .i64 (k : Int)] := by
  unfold ts0 l0
  rw [List.range_succ, List.map_append, List.map_append, List.filter_append, List.map_append]
  simp [h, iv, nv]
theorem ts0_succ_no {cs : List Bool} {W k : Nat} (h : burnsAt cs W k = false) : (ts0 cs W (k + 1)).map iv = (ts0 cs W k).map iv ++ [.int .i64 (-1)] ∧ (l0 cs W (k + 1)).map nv = (l0 cs W k).map nv := by
  unfold ts0 l0
  rw [List.range_succ, List.map_append, List.map_append, List.filter_append, List.map_append]
  simp [h, iv]
theorem l0_le (cs : List Bool) (W k : Nat) : (l0 cs W k).length ≤ k := by
  have := List.length_filter_le (burnsAt cs W) (List.range k)
  simpa [l0] using this
theorem l0_succ_yes {cs : List Bool} {W k : Nat} (h : burnsAt cs W k = true) : (l0 cs W (k + 1)).length = (l0 cs W k).length + 1 := by
  unfold l0; rw [List.range_succ, List.filter_append]; simp [h]
theorem l0_succ_no {cs : List Bool} {W k : Nat} (h : burnsAt cs W k = false) : (l0 cs W (k + 1)).length = (l0 cs W k).length := by
  unfold l0; rw [List.range_succ, List.filter_append]; simp [h]

theorem ts0_get (cs : List Bool) (W N i : Nat) : (ts0 cs W N).getD i 0 = if i < N then (if burnsAt cs W i then 0 else -1) else 0 := by
  unfold ts0
  rw [List.getD_eq_getElem?_getD, List.getElem?_map]
  by_cases h : i < N
  · rw [List.getElem?_range h, if_pos h]; rfl
  · rw [List.getElem?_eq_none (by simpa using h), if_neg h]; rfl
theorem burnt0 {cs : List Bool} {W N : Nat} : burnt (ts0 cs W N) = (l0 cs W N).length := by
  unfold burnt ts0 l0
  rw [List.countP_map, ← List.countP_eq_length_filter]
  congr 1
  funext i
  simp only [Function.comp]
  split <;> simp_all
theorem binv0 {cs : List Bool} {W N : Nat} (h : cs.length = N) : BInv N (ts0 cs W N) (l0 cs W N) := by
  refine ⟨by simp [ts0], fun x hx => ?_, fun i => ?_, fun i => ?_⟩
  · simp [l0] at hx
    exact hx.1
  · rw [ts0_get]; repeat' split
    all_goals omega
  · rw [ts0_get]; repeat' split
    all_goals omega

set_option maxRecDepth 100000 in
set_option maxHeartbeats 2000000 in
theorem l07Burn_any (W H N : Nat) (A : Option Addr) (c g : Nat) (cs : List Bool) (w : World) (hW : 1 ≤ W) (hW' : W ≤ 16) (hH : 1 ≤ H) (hH' : H ≤ 16) (hl : cs.length = N) (hP : W * H = N)
    (hb : Blk w g 29 #[.int .i64 W, .int .i64 H, .slice A N c]) (hA : Rd w w.heap.size 1 A N (cs.map bv)) :
    Calls Try.prog 24 #[.pointer (some ⟨g, 0, none⟩)] w fun e w' => ∃ A' c', e = .returned (.tuple #[.slice A' N c', .int .i64 (qrun cs (nbs W H) N 0 (ts0 cs W N, l0 cs W N) (-1)).2]) ∧
      w'.ownsRow w.heap.size 2 1 (.slice A' N c') N ((qrun cs (nbs W H) N 0 (ts0 cs W N, l0 cs W N) (-1)).1.map iv) ∧ Below w.heap.size w w' := by
  have hgl := hb.lt
  have k0 : ∀ w', Below w.heap.size w w' → w'.cell? ⟨g, 0, none⟩ = some (.int .i64 W) := fun w' h => (h.cell hgl).trans (hb.cell 0)
  have k1 : ∀ w', Below w.heap.size w w' → w'.cell? ⟨g, 1, none⟩ = some (.int .i64 H) := fun w' h => (h.cell hgl).trans (hb.cell 1)
  have k2 : ∀ w', Below w.heap.size w w' → w'.cell? ⟨g, 2, none⟩ = some (.slice A N c) := fun w' h => (h.cell hgl).trans (hb.cell 2)
  have K0 := Lib.hid k0
  have K1 := Lib.hid k1
  have K2 := Lib.hid k2
  have d0 : w.cell? ⟨g, 2, none⟩ = some (.slice A N c) := hb.cell 2
  clear k0 k1 k2 hb
  have hN256 : N ≤ 256 := by have := Nat.mul_le_mul hW' hH'; omega
  have HN := Lib.hid hl
  have HP := Lib.hid hP
  clear hl hP
  go_enter Try.func24, Try.ntmps24
  go_wp2
  go_loopw [4, 5, 19] (fun so sl si wr => ∃ (k : Nat) (Ao Al : Option Addr) (co cl : Nat), k ≤ N ∧ si = .int .i64 k ∧ so = .slice Ao k co ∧ sl = .slice Al (l0 cs W k).length cl ∧
      wr.ownsRow w.heap.size 2 1 (.slice Ao k co) k ((ts0 cs W k).map iv) ∧ wr.ownsRow w.heap.size 2 1 (.slice Al (l0 cs W k).length cl) (l0 cs W k).length ((l0 cs W k).map nv) ∧
      Dis (.slice Ao k co) (.slice Al (l0 cs W k).length cl) ∧ Below w.heap.size w wr) (fun _ _ i _ => N - (intOf i).toNat)
  case atStart =>
    have b0 : Blk ((w.alloc (.cells #[] 2)).alloc (.cells #[] 2)) w.heap.size 2 #[] := (Blk.new w _ _).alloc _
    have b1 : Blk ((w.alloc (.cells #[] 2)).alloc (.cells #[] 2)) (w.heap.size + 1) 2 #[] := Blk.new2 w _ _ _
    exact ⟨0, _, _, 0, 0, Nat.zero_le _, rfl, rfl, rfl, b0.own (n := 0) (size := 1) (Nat.le_refl _) rfl (by unfold maxLen; omega), b1.own (n := 0) (size := 1) (by omega) rfl (by unfold maxLen; omega), fun j h h' => by simp [Value.ownBlock] at h h'; omega,
      ((Below.refl _ _).alloc (Nat.le_refl _) _).alloc (by simp) _⟩
  case round =>
    obtain ⟨k, Ao, Al, co, cl, hk, rfl, rfl, rfl, ho, hol, hd, hb⟩ := hrel
    have hsz := hb.size
    have HO := Lib.hid ho
    have HL := Lib.hid hol
    have HD := Lib.hid hd
    have hll := l0_le cs W k
    have OO := Lib.hid (Old.own ho)
    have OL := Lib.hid (Old.own hol)
    clear ho hol hd
    have d0 := K0.out wr hb
    have d2 := K2.out wr hb
    by_cases hlt : k < N
    · by_cases hkW : k < W
      · obtain ⟨b, off, rfl, hbb, hc⟩ := hA.2 (by omega)
        have hkl : k < cs.length := by have := HN.out; omega
        have ex : (cs.map bv)[k]? = some (.bool (cs.getD k false)) := by rw [List.getElem?_map, List.getElem?_eq_getElem hkl, List.getD_eq_getElem?_getD, List.getElem?_eq_getElem hkl]; rfl
        have c1 : wr.cell? ⟨b, off + k, none⟩ = some (.bool (cs.getD k false)) := (hb.cell hbb).trans (hc _ _ ex)
        clear hc ex hA
        cases hcell : cs.getD k false
        · have hbu : burnsAt cs W k = false := by unfold burnsAt; rw [hcell]; simp
          obtain ⟨e1, e2⟩ := ts0_succ_no hbu
          have e3 := l0_succ_no hbu
          have E := Lib.hid (And.intro e1 (And.intro e2 e3))
          rw [hcell] at c1
          clear e1 e2 e3 hbu hcell
          go_wp2_with (at_builtin; refine wpList_append_one (W := wr) rfl _ _ _ rfl w.heap.size 2 (.int .i64 0) 8 Try.underlying26 intInfo rfl Ao k co _ rfl HO.out (.int .i64 (-1)) _ rfl (by simp) rfl (by unfold maxLen; omega) (by omega) hsz ?_; intro A1 c1 w1 ho1 hg1 hd1)
          go_roundw
          case rel =>
            refine ⟨k + 1, A1, Al, c1, cl, by omega, by go_num, rfl, by rw [E.out.2.2], by rw [E.out.1]; exact ho1, ?_, ?_, hb.grown hg1 hsz (fun j e => (HO.out.lt j e).1)⟩
            · rw [E.out.2.1, E.out.2.2]; exact own_kept HL.out hg1 HD.out.symm
            · rw [E.out.2.2]; exact hd1 _ OL.out HD.out
          case measure => simp [intOf]; omega
        · have hbu : burnsAt cs W k = true := by unfold burnsAt; rw [hcell]; simp [hkW]
          obtain ⟨e1, e2⟩ := ts0_succ_yes hbu
          have e3 := l0_succ_yes hbu
          have E := Lib.hid (And.intro e1 (And.intro e2 e3))
          rw [hcell] at c1
          clear e1 e2 e3 hbu hcell
          go_wp2_with (first
            | (at_builtin; refine wpList_append_one (W := wr) rfl _ _ _ rfl w.heap.size 2 (.int .i64 0) 8 Try.underlying26 intInfo rfl Al (l0 cs W k).length cl _ rfl HL.out (.int .i64 k) _ rfl (by simp) rfl (by unfold maxLen; omega) (by omega) hsz ?_; intro A1 c1 w1 ho1 hg1 hd1
               have hz1 := hg1.size
               have hb1 := hb.grown hg1 hsz (fun j e => (HL.out.lt j e).1)
               have ho0 := own_kept HO.out hg1 HD.out
               have hdd := hd1 _ OO.out HD.out.symm
               have HO0 := Lib.hid ho0
               have HO1 := Lib.hid ho1
               have HDD := Lib.hid hdd
               have HB1 := Lib.hid hb1
               clear ho0 ho1 hdd hb1 hd1)
            | (at_builtin; refine wpList_append_one (W := w1) rfl _ _ _ rfl w.heap.size 2 (.int .i64 0) 8 Try.underlying26 intInfo rfl Ao k co _ rfl HO0.out (.int .i64 0) _ rfl (by simp) rfl (by unfold maxLen; omega) (by omega) (by omega) ?_; intro A2 c2 w2 ho2 hg2 hd2))
          go_roundw
          case rel =>
            refine ⟨k + 1, A2, A1, c2, c1, by omega, by go_num, rfl, by rw [E.out.2.2], by rw [E.out.1]; exact ho2, ?_, ?_, HB1.out.grown hg2 (by omega) (fun j e => (HO0.out.lt j e).1)⟩
            · rw [E.out.2.1, E.out.2.2]; exact own_kept HO1.out hg2 HDD.out
            · rw [E.out.2.2]; exact hd2 _ (Old.own HO1.out) HDD.out.symm
          case measure => simp [intOf]; omega
      · have hbu : burnsAt cs W k = false := by unfold burnsAt; simp [hkW]
        obtain ⟨e1, e2⟩ := ts0_succ_no hbu
        have e3 := l0_succ_no hbu
        have E := Lib.hid (And.intro e1 (And.intro e2 e3))
        clear e1 e2 e3 hbu
        go_wp2_with (at_builtin; refine wpList_append_one (W := wr) rfl _ _ _ rfl w.heap.size 2 (.int .i64 0) 8 Try.underlying26 intInfo rfl Ao k co _ rfl HO.out (.int .i64 (-1)) _ rfl (by simp) rfl (by unfold maxLen; omega) (by omega) hsz ?_; intro A1 c1 w1 ho1 hg1 hd1)
        go_roundw
        case rel =>
          refine ⟨k + 1, A1, Al, c1, cl, by omega, by go_num, rfl, by rw [E.out.2.2], by rw [E.out.1]; exact ho1, ?_, ?_, hb.grown hg1 hsz (fun j e => (HO.out.lt j e).1)⟩
          · rw [E.out.2.1, E.out.2.2]; exact own_kept HL.out hg1 HD.out.symm
          · rw [E.out.2.2]; exact hd1 _ OL.out HD.out
        case measure => simp [intOf]; omega
    · obtain rfl : k = N := by omega
      go_wp2_with fail
      have i0 : BInv k (ts0 cs W k) (l0 cs W k) := binv0 HN.out
      have n0 : burnt (ts0 cs W k) = (l0 cs W k).length := burnt0
      obtain ⟨R, HR0⟩ : ∃ R, Hid (qrun cs (nbs W H) k 0 (ts0 cs W k, l0 cs W k) (-1) = R) := ⟨_, rfl⟩
      have I0 := Lib.hid i0
      have N0 := Lib.hid n0
      clear i0 n0 OO OL
      go_loopw [5, 8, 9] (fun sl sla sk wr => ∃ (j : Nat) (ts : List Int) (l : List Nat) (last : Int) (Al : Option Addr) (cl : Nat), j ≤ l.length ∧ sk = .int .i64 j ∧ sl = .slice Al l.length cl ∧ sla = .int .i64 last ∧
          wr.ownsRow w.heap.size 2 1 (.slice Ao k co) k (ts.map iv) ∧ wr.ownsRow w.heap.size 2 1 (.slice Al l.length cl) l.length (l.map nv) ∧
          Dis (.slice Ao k co) (.slice Al l.length cl) ∧ Below w.heap.size w wr ∧ Hid (BInv k ts l) ∧ Hid (burnt ts = l.length) ∧ l.length ≤ k ∧ Hid (qrun cs (nbs W H) (k - j) j (ts, l) last = R)) (fun _ _ i _ => k - (intOf i).toNat)
      case atStart =>
        exact ⟨0, ts0 cs W k, l0 cs W k, -1, Al, cl, Nat.zero_le _, rfl, rfl, rfl, HO.out, HL.out, HD.out, hb, I0, N0, hll, HR0⟩
      case round =>
        clear I0 N0 HO HL HD hll hb hsz
        obtain ⟨j, ts, l, last, Al, cl, hj, rfl, rfl, rfl, ho, hol, hd, hb, I, NB, hlN, HR⟩ := hrel
        have hsz := hb.size
        by_cases hlt : j < l.length
        · obtain ⟨gl, cl', hvl, _, hgl'⟩ := hol.form (by omega)
          obtain ⟨rfl, rfl⟩ : Al = some ⟨gl, 0, none⟩ ∧ cl = cl' := by injection hvl with h1 _ h3; exact ⟨h1, h3⟩
          have hk0 : 0 < k := by omega
          obtain ⟨gt, co', hvt, _, hgt'⟩ := ho.form hk0
          obtain ⟨rfl, rfl⟩ : Ao = some ⟨gt, 0, none⟩ ∧ co = co' := by injection hvt with h1 _ h3; exact ⟨h1, h3⟩
          obtain ⟨a, ea⟩ : ∃ a, l[j] = a := ⟨_, rfl⟩
          have hal : a < k := I.out.lt a (ea ▸ List.getElem_mem hlt)
          have eget : l.getD j 0 = a := by rw [List.getD_eq_getElem?_getD, List.getElem?_eq_getElem hlt]; exact ea
          have cL : wr.cell? ⟨gl, j, none⟩ = some (.int .i64 (a : Int)) := by
            rw [hol.cellAt _ (by omega), List.getElem?_map, List.getElem?_eq_getElem hlt, ea]; rfl
          obtain ⟨t, et⟩ : ∃ t, ts.getD a 0 = t := ⟨_, rfl⟩
          have hta : a < ts.length := by rw [I.out.len]; exact hal
          have cT : wr.cell? ⟨gt, a, none⟩ = some (.int .i64 t) := by
            rw [ho.cellAt _ (by omega), List.getElem?_map, List.getElem?_eq_getElem hta, ← et, List.getD_eq_getElem?_getD, List.getElem?_eq_getElem hta]; rfl
          have ht1 : -1 ≤ t := et ▸ I.out.lo a
          have ht2 : t ≤ l.length := by have := I.out.hi a; rw [et, NB.out] at this; exact this
          have d0 := K0.out wr hb
          have d1 := K1.out wr hb
          have E1 := Lib.hid (And.intro eget et)
          have HO := Lib.hid ho
          have HL := Lib.hid hol
          have HD := Lib.hid hd
          have OO := Lib.hid (Old.own ho)
          have OL := Lib.hid (Old.own hol)
          clear ho hol hd ea eget et hvl hvt
          go_wp2
          go_still_tail 12, (by kernel_rfl)
          go_wp2_with (go_at_call 34; refine (beside_any W H a _ hW hW' hH hH' (by rw [HP.out]; exact hal)).mono ?_; rintro e w1 ⟨An, nn, cn, rfl, hn, hb1⟩)
          obtain ⟨bs, ebs⟩ : ∃ bs, nbs W H a = bs := ⟨_, rfl⟩
          rw [ebs] at hn
          have hbsN : ∀ b ∈ bs, b < k := fun b hb => by
            have := nbs_lt (W := W) (H := H) (i := a) (b := b) (by rw [HP.out]; exact hal) (ebs ▸ hb)
            rwa [HP.out] at this
          have hnn : bs.length = nn := by have := hn.1; simp at this; omega
          have BS := Lib.hid (And.intro hbsN (And.intro hnn ebs))
          have hnn4 : nn ≤ 4 := by rw [← hnn, ← ebs]; unfold nbs nb1 nb2 nb3 nb4; simp only [List.length_append]; repeat' split <;> simp
          have ho1 := own_below (w := wr.drew) HO.out hb1
          have hl1 := own_below (w := wr.drew) HL.out hb1
          have hd2 := Dis.of_lt hn OO.out
          have hd3 := Dis.of_lt hn OL.out
          have hbw := hb.drew.trans (hb1.mono hsz)
          have HO1 := Lib.hid ho1
          have HL1 := Lib.hid hl1
          have HN1 := Lib.hid hn
          have HD2 := Lib.hid hd2
          have HD3 := Lib.hid hd3
          have HBW := Lib.hid hbw
          clear ho1 hl1 hn hd2 hd3 hbw hbsN hnn ebs cL cT d0 d1 HO HL OO OL hb1 hb hsz
          go_loopw [5, 74] (fun sl si wr => ∃ (i : Nat) (ts' : List Int) (l' : List Nat) (Al : Option Addr) (cl : Nat), i ≤ nn ∧ si = .int .i64 i ∧ sl = .slice Al l'.length cl ∧
              wr.ownsRow w.heap.size 2 1 (.slice (some ⟨gt, 0, none⟩) k co) k (ts'.map iv) ∧ wr.ownsRow w.heap.size 2 1 (.slice Al l'.length cl) l'.length (l'.map nv) ∧ wr.ownsRow 0 2 1 (.slice An nn cn) nn (bs.map nv) ∧
              Dis (.slice (some ⟨gt, 0, none⟩) k co) (.slice Al l'.length cl) ∧ Dis (.slice An nn cn) (.slice (some ⟨gt, 0, none⟩) k co) ∧ Dis (.slice An nn cn) (.slice Al l'.length cl) ∧ Below w.heap.size w wr ∧
              Hid (BInv k ts' l') ∧ Hid (burnt ts' = l'.length) ∧ l'.length ≤ k ∧ l.length ≤ l'.length ∧ Hid (visits cs (t + 1) (bs.drop i) (ts', l') = visits cs (t + 1) bs (ts, l))) (fun _ i _ => nn - (intOf i).toNat)
          case atStart => exact ⟨0, ts, l, _, cl, Nat.zero_le _, rfl, rfl, HO1.out, HL1.out, own_base HN1.out (Nat.zero_le _), HD.out, HD2.out, HD3.out, HBW.out, I, NB, hlN, Nat.le_refl _, rfl⟩
          case round =>
            clear I NB HO1 HL1 HN1 HD HD2 HD3 HBW
            obtain ⟨i, ts', l', Al, cl, hi, rfl, rfl, ho, hol, hon, hd, hd2, hd3, hb, I, NB, hlN', hll', HV⟩ := hrel
            have hsz := hb.size
            by_cases hlt2 : i < nn
            · obtain ⟨gn, cn', hvn, _, hgn'⟩ := hon.form (by omega)
              obtain ⟨rfl, rfl⟩ : An = some ⟨gn, 0, none⟩ ∧ cn = cn' := by injection hvn with h1 _ h3; exact ⟨h1, h3⟩
              obtain ⟨b0, off, rfl, hbb, hc⟩ := hA.2 hk0
              have hib : i < bs.length := by rw [BS.out.2.1]; exact hlt2
              obtain ⟨b, eb⟩ : ∃ b, bs[i] = b := ⟨_, rfl⟩
              have hbk : b < k := BS.out.1 b (eb ▸ List.getElem_mem hib)
              have cN : wr.cell? ⟨gn, i, none⟩ = some (.int .i64 (b : Int)) := by
                rw [hon.cellAt _ (by omega), List.getElem?_map, List.getElem?_eq_getElem hib, eb]; rfl
              have hbc : b < cs.length := by rw [HN.out]; exact hbk
              have cC : wr.cell? ⟨b0, off + b, none⟩ = some (.bool (cs.getD b false)) := by
                refine (hb.cell hbb).trans (hc b _ ?_)
                rw [List.getElem?_map, List.getElem?_eq_getElem hbc, List.getD_eq_getElem?_getD, List.getElem?_eq_getElem hbc]; rfl
              obtain ⟨tb, etb⟩ : ∃ tb, ts'.getD b 0 = tb := ⟨_, rfl⟩
              have htb : b < ts'.length := by rw [I.out.len]; exact hbk
              have cO : wr.cell? ⟨gt, b, none⟩ = some (.int .i64 tb) := by
                rw [ho.cellAt _ (by omega), List.getElem?_map, List.getElem?_eq_getElem htb, ← etb, List.getD_eq_getElem?_getD, List.getElem?_eq_getElem htb]; rfl
              have fO : wr.frozen? ⟨gt, b, none⟩ = false := ho.frozenAt _
              have d2 := K2.out wr hb
              obtain ⟨ho2, hg2⟩ := ho.stored b (.int .i64 (t + 1))
              have HS := Lib.hid (And.intro ho2 hg2)
              have HO := Lib.hid ho
              have HL := Lib.hid hol
              have HON := Lib.hid hon
              have HD := Lib.hid hd
              have HD2 := Lib.hid hd2
              have HD3 := Lib.hid hd3
              have HB := Lib.hid hb
              have EB := Lib.hid eb
              have ETB := Lib.hid etb
              have hsg : gt < wr.heap.size := (ho.lt gt rfl).2
              have hgt0 : w.heap.size ≤ gt := (ho.lt gt rfl).1
              clear hc ho hol hon hd hd2 hd3 hb eb etb hvn ho2 hg2
              cases hcell : cs.getD b false
              · rw [hcell] at cC
                have V1 : Hid (visit cs (t + 1) (ts', l') b = (ts', l')) := visit_ne (by rw [hcell]; simp)
                clear hcell
                go_wp2
                go_quiet (fail)
                go_wp2
                go_roundw
                case rel =>
                  refine ⟨i + 1, ts', l', Al, cl, by omega, by go_num, rfl, HO.out, HL.out, HON.out, HD.out, HD2.out, HD3.out, below_drewN HB.out _, I, NB, hlN', hll', ?_⟩
                  have hv := HV.out
                  rw [visits_drop hib, EB.out, V1.out] at hv
                  exact hv
                case measure => simp [intOf]; omega
              · rw [hcell] at cC
                by_cases hneg : tb < 0
                · have V1 : Hid (visit cs (t + 1) (ts', l') b = (ts'.set b (t + 1), l' ++ [b])) := visit_eq ⟨hcell, by rw [ETB.out]; exact hneg⟩
                  have hne : ¬ gn = gt := fun e => HD2.out gn rfl (by rw [e]; rfl)
                  have hlk : l'.length < k := by
                    have h1 := I.out.visit (cs := cs) (t := t + 1) hbk (by omega) (by rw [NB.out]; omega)
                    have h2 := burnt_le (visit cs (t + 1) (ts', l') b).1
                    rw [h1.len, V1.out] at h2
                    have h3 := burnt_set ts' b (t + 1) (by rw [I.out.len]; exact hbk) (by rw [ETB.out]; exact hneg) (by omega)
                    rw [h3, NB.out] at h2
                    omega
                  clear hcell
                  go_wp2
                  go_quiet (fail)
                  generalize hw1 : World.drewN wr _ = w1
                  have cN1 : w1.cell? ⟨gn, i, none⟩ = some (.int .i64 (b : Int)) := hw1 ▸ cN
                  have cO1 : w1.cell? ⟨gt, b, none⟩ = some (.int .i64 tb) := hw1 ▸ cO
                  have fO1 : w1.frozen? ⟨gt, b, none⟩ = false := hw1 ▸ fO
                  have ho1 : w1.ownsRow w.heap.size 2 1 (.slice (some ⟨gt, 0, none⟩) k co) k (ts'.map iv) := hw1 ▸ HO.out
                  have hl1 : w1.ownsRow w.heap.size 2 1 (.slice Al l'.length cl) l'.length (l'.map nv) := hw1 ▸ HL.out
                  have hn1 : w1.ownsRow 0 2 1 (.slice (some ⟨gn, 0, none⟩) nn cn) nn (bs.map nv) := hw1 ▸ HON.out
                  have hb1 : Below w.heap.size w w1 := hw1 ▸ below_drewN HB.out _
                  clear hw1 cN cO fO d2 cC HS HO HL HON HB
                  obtain ⟨ho2, hg2⟩ := ho1.stored b (.int .i64 (t + 1))
                  have hl2 := own_kept hl1 (u := .slice (some ⟨gt, 0, none⟩) k co) hg2 HD.out.symm
                  have hn2 := own_kept hn1 (u := .slice (some ⟨gt, 0, none⟩) k co) hg2 HD2.out
                  have hb2 := hb1.grown hg2 hb1.size (fun j e => by injection e with e; omega)
                  have hz2 := hb2.size
                  have HO := Lib.hid ho2
                  have HL := Lib.hid hl2
                  have HON := Lib.hid hn2
                  have HB := Lib.hid hb2
                  clear ho1 hl1 hn1 hb1 ho2 hl2 hn2 hb2 hg2
                  go_wp2_with (at_builtin; refine wpList_append_one (W := w1.setCell ⟨gt, b, none⟩ (.int .i64 (t + 1))) rfl _ _ _ rfl w.heap.size 2 (.int .i64 0) 8 Try.underlying26 intInfo rfl Al l'.length cl _ rfl HL.out (.int .i64 (b : Int)) _ rfl (by simp) rfl (by unfold maxLen; omega) (by omega) hz2 ?_; intro A3 c3 w3 ho3 hg3 hd3)
                  go_roundw
                  case rel =>
                    have h1 := I.out.visit (cs := cs) (t := t + 1) hbk (by omega) (by rw [NB.out]; omega)
                    rw [V1.out] at h1
                    have h3 := burnt_set ts' b (t + 1) (by rw [I.out.len]; exact hbk) (by rw [ETB.out]; exact hneg) (by omega)
                    refine ⟨i + 1, ts'.set b (t + 1), l' ++ [b], A3, c3, by omega, by go_num, by simp, ?_, ?_, own_kept HON.out hg3 HD3.out, ?_, HD2.out, ?_, HB.out.grown hg3 hz2 (fun j e => (HL.out.lt j e).1), h1, by simp [Hid, h3, NB.out], by simp; omega, by simp; omega, ?_⟩
                    · rw [List.map_set]; exact own_kept HO.out hg3 HD.out
                    · rw [List.length_append, List.map_append]; exact ho3
                    · rw [List.length_append]; exact (hd3 _ (Old.own HO.out) HD.out.symm).symm
                    · rw [List.length_append]; exact (hd3 _ (Old.own HON.out) HD3.out.symm).symm
                    · have hv := HV.out
                      rw [visits_drop hib, EB.out, V1.out] at hv
                      exact hv
                  case measure => simp [intOf]; omega
                · have V1 : Hid (visit cs (t + 1) (ts', l') b = (ts', l')) := visit_ne (by rw [ETB.out]; exact fun h => hneg h.2)
                  clear hcell
                  go_wp2
                  go_quiet (fail)
                  go_wp2
                  go_roundw
                  case rel =>
                    refine ⟨i + 1, ts', l', Al, cl, by omega, by go_num, rfl, HO.out, HL.out, HON.out, HD.out, HD2.out, HD3.out, below_drewN HB.out _, I, NB, hlN', hll', ?_⟩
                    have hv := HV.out
                    rw [visits_drop hib, EB.out, V1.out] at hv
                    exact hv
                  case measure => simp [intOf]; omega
            · obtain rfl : i = nn := by omega
              go_wp2
              go_roundw
              case rel =>
                refine ⟨j + 1, ts', l', t, Al, cl, by omega, by go_num, rfl, rfl, ho, hol, hd, hb, I, NB, hlN', ?_⟩
                have h := HR.out
                have hv := HV.out
                rw [← BS.out.2.1, List.drop_length] at hv
                rw [show k - j = (k - (j + 1)) + 1 from by omega, qrun_step hlt] at h
                unfold qstep at h
                simp only [E1.out.1, E1.out.2, BS.out.2.2, ← hv] at h
                exact h
              case measure => simp [intOf]; omega
        · obtain rfl : j = l.length := by omega
          go_wp2
          go_ret2
          have hR : (ts, last) = R := by
            have h := HR.out
            cases hm : k - l.length with
            | zero => rw [hm] at h; exact h
            | succ f =>
              rw [hm] at h
              unfold qrun at h
              rw [if_neg (by simp)] at h
              exact h
          refine ⟨Ao, co, ?_, ?_, hb⟩
          · rw [HR0.out, ← hR]; rfl
          · rw [HR0.out, ← hR]; exact ho
end Go.Proofs.Ytoclpjhhjkcejaa

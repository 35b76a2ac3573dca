/- Walk: the program's burning of a field, level by level. Conditions: the field is valid. -/
import Derived.Test.YtknonmfffcjonaaBs
import Derived.Test.YtknonmfffcjonaaRep
import Derived.Test.YtknonmfffcjonaaSd
import Derived.Deep.LoopGhost
namespace Go.Proofs.Ytknonmfffcjonaa
open Go.RowKit

theorem ts0_all (cs : List Bool) (N : Nat) : (ts0 cs 0 N).map iv = List.replicate N (.int .i64 (-1)) := by
  unfold ts0
  rw [List.map_map]
  refine List.ext_getElem (by simp) (fun i h1 h2 => ?_)
  simp [burnsAt, iv]
theorem ts0_yes {cs : List Bool} {N k : Nat} (hk : k < N) (h : cs.getD k false = true) : ts0 cs (k + 1) N = (ts0 cs k N).set k 0 := by
  refine List.ext_getElem (by simp [ts0]) (fun i h1 h2 => ?_)
  simp only [ts0, List.length_map, List.length_range] at h1
  rw [List.getElem_set]
  simp only [ts0, List.getElem_map, List.getElem_range, burnsAt]
  by_cases e : k = i
  · subst e; rw [List.getD_eq_getElem?_getD] at h; simp [h]
  · rw [if_neg e]
    congr 1
    have : (i < k + 1) = (i < k) := by simp; omega
    simp [this]
theorem ts0_no {cs : List Bool} {N k : Nat} (h : cs.getD k false = false) : ts0 cs (k + 1) N = ts0 cs k N := by
  unfold ts0
  refine List.map_congr_left (fun i _ => ?_)
  have : burnsAt cs (k + 1) i = burnsAt cs k i := by
    unfold burnsAt
    by_cases e : i = k
    · subst e; rw [List.getD_eq_getElem?_getD] at h; simp [h]
    · have : (i < k + 1) = (i < k) := by simp; omega
      simp [this]
  rw [this]
theorem l0_no {cs : List Bool} {k : Nat} (h : cs.getD k false = false) : l0 cs (k + 1) (k + 1) = l0 cs k k := by
  unfold l0
  rw [List.range_succ, List.filter_append]
  have h1 : burnsAt cs (k + 1) k = false := by unfold burnsAt; rw [h]; simp
  have h2 : (List.range k).filter (burnsAt cs (k + 1)) = (List.range k).filter (burnsAt cs k) := by
    refine List.filter_congr (fun x hx => ?_)
    simp at hx
    unfold burnsAt
    rw [show decide (x < k + 1) = true from by simp; omega, show decide (x < k) = true from by simp; omega]
  rw [h2]; simp [h1]
theorem l0_yes {cs : List Bool} {k : Nat} (h : cs.getD k false = true) : l0 cs (k + 1) (k + 1) = l0 cs k k ++ [k] := by
  unfold l0
  rw [List.range_succ, List.filter_append]
  have h1 : burnsAt cs (k + 1) k = true := by unfold burnsAt; rw [h]; simp
  have h2 : (List.range k).filter (burnsAt cs (k + 1)) = (List.range k).filter (burnsAt cs k) := by
    refine List.filter_congr (fun x hx => ?_)
    simp at hx
    unfold burnsAt
    rw [show decide (x < k + 1) = true from by simp; omega, show decide (x < k) = true from by simp; omega]
  rw [h2]; simp [h1]
theorem l0_cut {cs : List Bool} {W N : Nat} (h : W ≤ N) : l0 cs W N = l0 cs W W := by
  unfold l0
  obtain ⟨d, rfl⟩ : ∃ d, N = W + d := ⟨N - W, by omega⟩
  rw [List.range_add, List.filter_append]
  have : ((List.range d).map (W + ·)).filter (burnsAt cs W) = [] := by
    rw [List.filter_eq_nil_iff]
    intro x hx
    simp at hx
    obtain ⟨a, _, rfl⟩ := hx
    simp [burnsAt]
    intro h'; omega
  rw [this, List.append_nil]

theorem l0_time {cs : List Bool} {W N : Nat} (h : W ≤ N) : ∀ i ∈ l0 cs W W, (ts0 cs W N).getD i (-1) = -1 + 1 := fun i hi => by
  unfold l0 at hi
  simp only [List.mem_filter, List.mem_range] at hi
  have hiN : i < N := by omega
  unfold ts0
  rw [List.getD_eq_getElem?_getD, List.getElem?_map, List.getElem?_range hiN]
  simp [hi.2]

set_option maxRecDepth 100000 in
set_option maxHeartbeats 2000000 in
theorem times_any (W H N : Nat) (A : Option Addr) (c : Nat) (cs : List Bool) (w : World) (hW : 1 ≤ W) (hW' : W ≤ 16) (hH : 1 ≤ H) (hH' : H ≤ 16) (hl : cs.length = N) (hP : W * H = N)
    (hA : Rd w w.heap.size 1 A N (cs.map bv)) :
    Calls Try.prog 27 #[.agg #[.int .i64 W, .int .i64 H, .slice A N c]] w fun e w' => ∃ A' c', e = .returned (.tuple #[.slice A' N c', .int .i64 (lrun cs (nbs W H) (N + 1) (ts0 cs W N) (l0 cs W N) (-1)).2]) ∧
      w'.ownsRow w.heap.size 2 1 (.slice A' N c') N ((lrun cs (nbs W H) (N + 1) (ts0 cs W N) (l0 cs W N) (-1)).1.map iv) ∧ Below w.heap.size w w' := by
  obtain ⟨g, eg⟩ : ∃ g, g = w.heap.size := ⟨_, rfl⟩
  have hbk : Blk (w.alloc (.cells #[.int .i64 W, .int .i64 H, .slice A N c] 26)) g 26 #[.int .i64 W, .int .i64 H, .slice A N c] := eg ▸ Blk.new w _ _
  have hgl := hbk.lt
  obtain ⟨v, ev⟩ : ∃ v, v = w.alloc (.cells #[.int .i64 W, .int .i64 H, .slice A N c] 26) := ⟨_, rfl⟩
  have hvz : v.heap.size = w.heap.size + 1 := by rw [ev]; simp
  rw [← ev] at hbk hgl
  have k0 : ∀ w', Below v.heap.size v w' → w'.cell? ⟨g, 0, none⟩ = some (.int .i64 W) := fun w' h => (h.cell hgl).trans (hbk.cell 0)
  have k1 : ∀ w', Below v.heap.size v w' → w'.cell? ⟨g, 1, none⟩ = some (.int .i64 H) := fun w' h => (h.cell hgl).trans (hbk.cell 1)
  have k2 : ∀ w', Below v.heap.size v w' → w'.cell? ⟨g, 2, none⟩ = some (.slice A N c) := fun w' h => (h.cell hgl).trans (hbk.cell 2)
  have HW : Hid (Below w.heap.size w v) := by rw [ev]; exact (Below.refl _ _).alloc (Nat.le_refl _) _
  have hAv : Rd v v.heap.size 1 A N (cs.map bv) := (hA.below HW.out).more (by omega)
  have K0 := Lib.hid k0
  have K1 := Lib.hid k1
  have K2 := Lib.hid k2
  clear k0 k1 k2 hbk hA
  have hN256 : N ≤ 256 := by have := Nat.mul_le_mul hW' hH'; omega
  have hWN : W ≤ N := by rw [← hP]; exact Nat.le_mul_of_pos_right W hH
  have HN := Lib.hid hl
  have HP := Lib.hid hP
  have HVZ := Lib.hid hvz
  have EV := Lib.hid ev
  have EG := Lib.hid eg
  clear hl hP hvz ev eg
  go_enter Try.func27, Try.ntmps27
  go_wp2_with fail
  rw [← EV.out, ← EG.out]
  refine (repeatInt_one _ 0 1 N (.int .i64 (-1)) _ (by omega) (by rw [World.cell?_alloc_at _ _ _ _ (by rw [HVZ.out, EG.out])]; rfl) rfl).mono ?_
  rintro e w1 ⟨Ao, rfl, ho, hb1⟩
  have hbv : Below v.heap.size v w1 := ((Below.refl _ _).alloc (Nat.le_refl _) _).trans (hb1.mono (by simp))
  have ho1 : w1.ownsRow v.heap.size 2 1 (.slice Ao N N) N ((ts0 cs 0 N).map iv) := by rw [ts0_all]; exact own_base ho (by simp)
  have HO := Lib.hid ho1
  have HB := Lib.hid hbv
  have hsz1 := hbv.size
  have d0 := K0.out (w1.alloc (.cells #[] 2)) (hbv.alloc hbv.size _)
  clear ho ho1 hb1 hbv
  go_wp2
  go_loopw [5, 21] (fun sl si wr => ∃ (k : Nat) (Al : Option Addr) (cl : Nat), k ≤ W ∧ si = .int .i64 k ∧ sl = .slice Al (l0 cs k k).length cl ∧
      wr.ownsRow v.heap.size 2 1 (.slice Ao N N) N ((ts0 cs k N).map iv) ∧ wr.ownsRow v.heap.size 2 1 (.slice Al (l0 cs k k).length cl) (l0 cs k k).length ((l0 cs k k).map nv) ∧
      Dis (.slice Ao N N) (.slice Al (l0 cs k k).length cl) ∧ Below v.heap.size v wr) (fun _ i _ => W - (intOf i).toNat)
  case atStart =>
    have b1 : Blk (w1.alloc (.cells #[] 2)) w1.heap.size 2 #[] := Blk.new _ _ _
    exact ⟨0, _, 0, Nat.zero_le _, rfl, rfl, HO.out.alloc _, b1.own (n := 0) (size := 1) hsz1 rfl (by unfold maxLen; omega), fun j h h' => by
      have := (HO.out.lt j h).2
      simp [Value.ownBlock] at h'
      omega, HB.out.alloc hsz1 _⟩
  case round =>
    clear HO HB d0 hsz1
    obtain ⟨k, Al, cl, hk, rfl, rfl, ho, hol, hd, hb⟩ := hrel
    have hsz := hb.size
    have hll := l0_le cs k k
    by_cases hlt : k < W
    · obtain ⟨b, off, rfl, hbb, hc⟩ := hAv.2 (by omega)
      have hkN : k < N := by omega
      have hkl : k < cs.length := by rw [HN.out]; exact hkN
      have ex : (cs.map bv)[k]? = some (.bool (cs.getD k false)) := by rw [List.getElem?_map, List.getElem?_eq_getElem hkl, List.getD_eq_getElem?_getD, List.getElem?_eq_getElem hkl]; rfl
      have c1 : wr.cell? ⟨b, off + k, none⟩ = some (.bool (cs.getD k false)) := (hb.cell hbb).trans (hc _ _ ex)
      have d2 := K2.out wr hb
      have e3 : burnsAt cs k k = false := by unfold burnsAt; simp
      cases hcell : cs.getD k false
      · rw [hcell] at c1
        have e1 : Hid (ts0 cs (k + 1) N = ts0 cs k N) := ts0_no hcell
        have e2 : Hid (l0 cs (k + 1) (k + 1) = l0 cs k k) := l0_no hcell
        have HO := Lib.hid ho
        have HL := Lib.hid hol
        have HD := Lib.hid hd
        clear hc ex hcell ho hol hd hAv e3
        go_wp2
        go_roundw
        case rel =>
          refine ⟨k + 1, Al, cl, by omega, by go_num, by rw [e2.out], by rw [e1.out]; exact HO.out, ?_, ?_, hb⟩
          · rw [e2.out]; exact HL.out
          · rw [e2.out]; exact HD.out
        case measure => simp [intOf]; omega
      · rw [hcell] at c1
        have e1 : Hid (ts0 cs (k + 1) N = (ts0 cs k N).set k 0) := ts0_yes hkN hcell
        have e2 : Hid (l0 cs (k + 1) (k + 1) = l0 cs k k ++ [k]) := l0_yes hcell
        have hN0 : 0 < N := by omega
        obtain ⟨gt, co', hvt, _, hgt'⟩ := ho.form hN0
        obtain ⟨rfl, rfl⟩ : Ao = some ⟨gt, 0, none⟩ ∧ N = co' := by injection hvt with h1 _ h3; exact ⟨h1, h3⟩
        have hkt : k < ((ts0 cs k N).map iv).length := by simp [ts0]; exact hkN
        have cO : wr.cell? ⟨gt, k, none⟩ = some (((ts0 cs k N).map iv)[k]) := by rw [ho.cellAt _ (by omega), List.getElem?_eq_getElem hkt]
        have fO : wr.frozen? ⟨gt, k, none⟩ = false := ho.frozenAt _
        obtain ⟨ho2, hg2⟩ := ho.stored k (.int .i64 0)
        have hl2 := own_kept hol (u := .slice (some ⟨gt, 0, none⟩) N N) hg2 hd.symm
        have hgt0 := (ho.lt gt rfl).1
        have hb2 := hb.grown hg2 hb.size (fun j e => by injection e with e; omega)
        have hz2 := hb2.size
        have HO := Lib.hid ho2
        have HL := Lib.hid hl2
        have HD := Lib.hid hd
        have HB := Lib.hid hb2
        clear hc ex hcell ho hol hd hAv e3 ho2 hl2 hb2 hg2 hvt
        go_wp2_with (at_builtin; refine wpList_append_one (W := wr.setCell ⟨gt, k, none⟩ (.int .i64 0)) rfl _ _ _ rfl v.heap.size 2 (.int .i64 0) 8 Try.underlying28 intInfo rfl Al (l0 cs k k).length cl _ rfl HL.out (.int .i64 (k : Int)) _ rfl (by simp) rfl (by unfold maxLen; omega) (by omega) hz2 ?_; intro A3 c3 w3 ho3 hg3 hd3)
        go_roundw
        case rel =>
          refine ⟨k + 1, A3, c3, by omega, by go_num, by rw [e2.out]; simp, ?_, ?_, ?_, HB.out.grown hg3 hz2 (fun j e => (HL.out.lt j e).1)⟩
          · rw [e1.out, List.map_set]; exact own_kept HO.out hg3 HD.out
          · rw [e2.out, List.length_append, List.map_append]; exact ho3
          · rw [e2.out, List.length_append]; exact (hd3 _ (Old.own HO.out) HD.out.symm).symm
        case measure => simp [intOf]; omega
    · obtain rfl : k = W := by omega
      go_wp2_with fail
      obtain ⟨R, HR0⟩ : ∃ R, Hid (lrun cs (nbs k H) (N + 1) (ts0 cs k N) (l0 cs k N) (-1) = R) := ⟨_, rfl⟩
      have hcut := l0_cut (cs := cs) hWN
      have HR1 : Hid (lrun cs (nbs k H) (N + 1) (ts0 cs k N) (l0 cs k k) (-1) = R) := by rw [← hcut]; exact HR0
      have I0 : Hid (BInv N (ts0 cs k N) (l0 cs k k)) := by rw [← hcut]; exact binv0 HN.out
      have T0 : Hid (∀ i ∈ l0 cs k k, (ts0 cs k N).getD i (-1) = -1 + 1) := l0_time hWN
      have HO := Lib.hid ho
      have HL := Lib.hid hol
      have HD := Lib.hid hd
      clear hcut ho hol hd
      go_loopg [5, 7] (N + 1) (fun gk sl sla wr => ∃ (ts : List Int) (now : List Nat) (last : Int) (Al : Option Addr) (cl : Nat), sl = .slice Al now.length cl ∧ sla = .int .i64 last ∧
          wr.ownsRow v.heap.size 2 1 (.slice Ao N N) N (ts.map iv) ∧ wr.ownsRow v.heap.size 2 1 (.slice Al now.length cl) now.length (now.map nv) ∧
          Dis (.slice Ao N N) (.slice Al now.length cl) ∧ Below v.heap.size v wr ∧ Hid (BInv N ts now) ∧ now.length ≤ N ∧ -1 ≤ last ∧ last ≤ N ∧ Hid (∀ i ∈ now, ts.getD i (-1) = last + 1) ∧
          Hid (now ≠ [] → N + 1 ≤ gk + burnt ts) ∧ Hid (lrun cs (nbs k H) gk ts now last = R))
      case atStart =>
        exact ⟨ts0 cs k N, l0 cs k k, -1, Al, cl, rfl, rfl, HO.out, HL.out, HD.out, hb, I0, by omega, by omega, by omega, T0, fun _ => by omega, HR1⟩
      case round =>
        clear HO HL HD I0 T0 HR1 hb hsz hll
        obtain ⟨ts, now, last, Al, cl, rfl, rfl, ho, hol, hd, hb, I, hnl, hl1, hl2, T, HF, HR⟩ := hrel
        have hsz := hb.size
        by_cases hlt2 : 0 < now.length
        · have hne : now ≠ [] := fun h => by rw [h] at hlt2; simp at hlt2
          have hbu := burnt_le ts
          rw [I.out.len] at hbu
          obtain ⟨F, rfl⟩ : ∃ F, gk = F + 1 := ⟨gk - 1, by have := HF.out hne; omega⟩
          have hlast : last + 1 ≤ burnt ts := by
            obtain ⟨i0, hi0⟩ := List.exists_mem_of_ne_nil _ hne
            have h1 := I.out.hi i0
            rw [(getD_pos (T.out i0 hi0) (by omega)).1] at h1
            exact h1
          obtain ⟨c0, hc0⟩ : ∃ c0, burnt ts = c0 := ⟨_, rfl⟩
          rw [hc0] at hbu hlast
          have N0 : Hid (New (N := N) (last + 1 + 1) ts [] c0) := ⟨fun _ h => by simp at h, fun _ h => by simp at h, by simp [hc0]⟩
          have J0 : Hid (BInv N ts []) := ⟨I.out.len, fun _ h => by simp at h, I.out.lo, I.out.hi⟩
          have HC0 := Lib.hid hc0
          have HNE := Lib.hid hne
          have HO := Lib.hid ho
          have HL := Lib.hid hol
          have HD := Lib.hid hd
          have HB := Lib.hid hb
          have b1 : Hid (Blk (wr.alloc (.cells #[] 2)) wr.heap.size 2 #[]) := Blk.new _ _ _
          clear ho hol hd hb hc0 hne
          go_wp2
          go_loopw [8, 45] (fun sn sj wr => ∃ (j : Nat) (ts' : List Int) (next : List Nat) (An : Option Addr) (cn : Nat), j ≤ now.length ∧ sj = .int .i64 j ∧ sn = .slice An next.length cn ∧
              wr.ownsRow v.heap.size 2 1 (.slice Ao N N) N (ts'.map iv) ∧ wr.ownsRow v.heap.size 2 1 (.slice Al now.length cl) now.length (now.map nv) ∧ wr.ownsRow v.heap.size 2 1 (.slice An next.length cn) next.length (next.map nv) ∧
              Dis (.slice Ao N N) (.slice An next.length cn) ∧ Dis (.slice Al now.length cl) (.slice An next.length cn) ∧ Below v.heap.size v wr ∧ Hid (BInv N ts' next) ∧ Hid (New (N := N) (last + 1 + 1) ts' next c0) ∧ next.length ≤ N ∧
              Hid (∀ i ∈ now, ts'.getD i (-1) = last + 1) ∧ Hid (level cs (nbs k H) (now.drop j) (ts', next) = level cs (nbs k H) now (ts, []))) (fun _ i _ => now.length - (intOf i).toNat)
          case atStart =>
            refine ⟨0, ts, [], _, 0, Nat.zero_le _, rfl, rfl, HO.out.alloc _, HL.out.alloc _, b1.out.own (n := 0) (size := 1) hsz rfl (by unfold maxLen; omega), fun j h h' => ?_, fun j h h' => ?_, HB.out.alloc hsz _, J0, N0, Nat.zero_le _, T, rfl⟩
            · have := (HO.out.lt j h).2
              simp [Value.ownBlock] at h'
              omega
            · have := (HL.out.lt j h).2
              simp [Value.ownBlock] at h'
              omega
          case round =>
            clear HO HL HB b1 hsz
            obtain ⟨j, ts', next, An, cn, hj, rfl, rfl, ho, hol, hon, hd2, hd3, hb, J, NW, hnx, T', HV⟩ := hrel
            have hsz := hb.size
            by_cases hlt3 : j < now.length
            · obtain ⟨i, ei⟩ : ∃ i, now[j] = i := ⟨_, rfl⟩
              have him : i ∈ now := ei ▸ List.getElem_mem hlt3
              have hiT := T'.out i him
              have hiN : i < N := I.out.lt i him
              obtain ⟨gl, cl', hvl, _, hgl'⟩ := hol.form (by omega)
              obtain ⟨rfl, rfl⟩ : Al = some ⟨gl, 0, none⟩ ∧ cl = cl' := by injection hvl with h1 _ h3; exact ⟨h1, h3⟩
              have hN0 : 0 < N := by omega
              obtain ⟨gt, co', hvt, _, hgt'⟩ := ho.form hN0
              obtain ⟨rfl, rfl⟩ : Ao = some ⟨gt, 0, none⟩ ∧ N = co' := by injection hvt with h1 _ h3; exact ⟨h1, h3⟩
              have cL : wr.cell? ⟨gl, j, none⟩ = some (.int .i64 (i : Int)) := by
                rw [hol.cellAt _ (by omega), List.getElem?_map, List.getElem?_eq_getElem hlt3, ei]; rfl
              have d0 := K0.out wr hb
              have d1 := K1.out wr hb
              have d2 := K2.out wr hb
              have hgt0 := (ho.lt gt rfl).1
              have HO := Lib.hid ho
              have HL := Lib.hid hol
              have HON := Lib.hid hon
              have HD2 := Lib.hid hd2
              have HD3 := Lib.hid hd3
              have EI := Lib.hid ei
              have HT := Lib.hid hiT
              clear ho hol hon hd2 hd3 ei hiT hvl hvt
              go_wp2_with (go_at_call 28; refine (sides_any k H i _ _ rfl hW hW' hH hH' (by rw [HP.out]; exact hiN)).mono ?_; rintro e w1 ⟨Ab, nn, cb, rfl, hn, hb1⟩)
              obtain ⟨bs, ebs⟩ : ∃ bs, nbs k H i = bs := ⟨_, rfl⟩
              rw [ebs] at hn
              have hbsN : ∀ b ∈ bs, b < N := fun b hb => by
                have := nbs_lt (W := k) (H := H) (i := i) (b := b) (by rw [HP.out]; exact hiN) (ebs ▸ hb)
                rwa [HP.out] at this
              have hnn : bs.length = nn := by have := hn.1; simp at this; omega
              have BS := Lib.hid (And.intro hbsN (And.intro hnn ebs))
              have hnn4 : nn ≤ 4 := by rw [← hnn, ← ebs]; unfold nbs nb1 nb2 nb3 nb4; simp only [List.length_append]; repeat' split <;> simp
              have HO1 := Lib.hid (own_below HO.out hb1)
              have HL1 := Lib.hid (own_below HL.out hb1)
              have HN1 := Lib.hid (own_below HON.out hb1)
              have HBS := Lib.hid hn
              have HE2 := Lib.hid (Dis.of_lt hn (Old.own HO.out))
              have HE3 := Lib.hid (Dis.of_lt hn (Old.own HL.out))
              have HE4 := Lib.hid (Dis.of_lt hn (Old.own HON.out))
              have HBW := Lib.hid (hb.trans (hb1.mono hsz))
              clear hn hbsN hnn ebs cL d0 d1 d2 HO HL HON hb1 hb hsz
              go_loopw [8, 53] (fun sn si wr => ∃ (m : Nat) (ts'' : List Int) (next' : List Nat) (An : Option Addr) (cn : Nat), m ≤ nn ∧ si = .int .i64 m ∧ sn = .slice An next'.length cn ∧
                  wr.ownsRow v.heap.size 2 1 (.slice (some ⟨gt, 0, none⟩) N N) N (ts''.map iv) ∧ wr.ownsRow v.heap.size 2 1 (.slice (some ⟨gl, 0, none⟩) now.length cl) now.length (now.map nv) ∧ wr.ownsRow v.heap.size 2 1 (.slice An next'.length cn) next'.length (next'.map nv) ∧
                  wr.ownsRow 0 2 1 (.slice Ab nn cb) nn (bs.map nv) ∧
                  Dis (.slice (some ⟨gt, 0, none⟩) N N) (.slice An next'.length cn) ∧ Dis (.slice (some ⟨gl, 0, none⟩) now.length cl) (.slice An next'.length cn) ∧ Dis (.slice Ab nn cb) (.slice (some ⟨gt, 0, none⟩) N N) ∧ Dis (.slice Ab nn cb) (.slice An next'.length cn) ∧
                  Below v.heap.size v wr ∧ Hid (BInv N ts'' next') ∧ Hid (New (N := N) (last + 1 + 1) ts'' next' c0) ∧ next'.length ≤ N ∧
                  Hid (∀ i ∈ now, ts''.getD i (-1) = last + 1) ∧ Hid (visits cs (last + 1 + 1) (bs.drop m) (ts'', next') = visits cs (last + 1 + 1) bs (ts', next))) (fun _ i _ => nn - (intOf i).toNat)
              case atStart => exact ⟨0, ts', next, An, cn, Nat.zero_le _, rfl, rfl, HO1.out, HL1.out, HN1.out, own_base HBS.out (Nat.zero_le _), HD2.out, HD3.out, HE2.out, HE4.out, HBW.out, J, NW, hnx, T', rfl⟩
              case round =>
                clear HO1 HL1 HN1 HBS HD2 HD3 HE2 HE3 HE4 HBW
                obtain ⟨m, ts'', next', An, cn, hm, rfl, rfl, ho, hol, hon, hob, hd2, hd3, he2, he4, hb, J', NW', hnx', T'', HV'⟩ := hrel
                have hsz := hb.size
                by_cases hlt4 : m < nn
                · obtain ⟨gn, cn', hvn, _, hgn'⟩ := hob.form (by omega)
                  obtain ⟨rfl, rfl⟩ : Ab = some ⟨gn, 0, none⟩ ∧ cb = cn' := by injection hvn with h1 _ h3; exact ⟨h1, h3⟩
                  obtain ⟨b0, off, rfl, hbb, hc⟩ := hAv.2 hN0
                  have hib : m < bs.length := by rw [BS.out.2.1]; exact hlt4
                  obtain ⟨b, eb⟩ : ∃ b, bs[m] = b := ⟨_, rfl⟩
                  have hbk : b < N := BS.out.1 b (eb ▸ List.getElem_mem hib)
                  have cN : wr.cell? ⟨gn, m, none⟩ = some (.int .i64 (b : Int)) := by
                    rw [hob.cellAt _ (by omega), List.getElem?_map, List.getElem?_eq_getElem hib, eb]; rfl
                  have hbc : b < cs.length := by rw [HN.out]; exact hbk
                  have cC : wr.cell? ⟨b0, off + b, none⟩ = some (.bool (cs.getD b false)) := by
                    refine (hb.cell hbb).trans (hc b _ ?_)
                    rw [List.getElem?_map, List.getElem?_eq_getElem hbc, List.getD_eq_getElem?_getD, List.getElem?_eq_getElem hbc]; rfl
                  obtain ⟨tb, etb⟩ : ∃ tb, ts''.getD b 0 = tb := ⟨_, rfl⟩
                  have htb : b < ts''.length := by rw [J'.out.len]; exact hbk
                  have cO : wr.cell? ⟨gt, b, none⟩ = some (.int .i64 tb) := by
                    rw [ho.cellAt _ (by omega), List.getElem?_map, List.getElem?_eq_getElem htb, ← etb, List.getD_eq_getElem?_getD, List.getElem?_eq_getElem htb]; rfl
                  have cI : wr.cell? ⟨gt, i, none⟩ = some (.int .i64 (last + 1)) := by
                    obtain ⟨h1, h2⟩ := getD_pos (T''.out i him) (by omega)
                    rw [ho.cellAt _ (by omega), List.getElem?_map, List.getElem?_eq_getElem h2, ← h1, List.getD_eq_getElem?_getD, List.getElem?_eq_getElem h2]; rfl
                  have fO : wr.frozen? ⟨gt, b, none⟩ = false := ho.frozenAt _
                  have d2 := K2.out wr hb
                  have EB := Lib.hid eb
                  have ETB := Lib.hid etb
                  have HO := Lib.hid ho
                  have HL := Lib.hid hol
                  have HON := Lib.hid hon
                  have HOB := Lib.hid hob
                  have HD2 := Lib.hid hd2
                  have HD3 := Lib.hid hd3
                  have HE2 := Lib.hid he2
                  have HE4 := Lib.hid he4
                  have HB := Lib.hid hb
                  clear hc ho hol hon hob hd2 hd3 he2 he4 hb eb etb hvn
                  cases hcell : cs.getD b false
                  · rw [hcell] at cC
                    have V1 : Hid (visit cs (last + 1 + 1) (ts'', next') b = (ts'', next')) := visit_ne (by rw [hcell]; simp)
                    clear hcell
                    go_wp2
                    go_roundw
                    case rel =>
                      refine ⟨m + 1, ts'', next', An, cn, by omega, by go_num, rfl, HO.out, HL.out, HON.out, HOB.out, HD2.out, HD3.out, HE2.out, HE4.out, HB.out, J', NW', hnx', T'', ?_⟩
                      have hv := HV'.out
                      rw [visits_drop hib, EB.out, V1.out] at hv
                      exact hv
                    case measure => simp [intOf]; omega
                  · rw [hcell] at cC
                    by_cases hneg : tb < 0
                    · have V1 : Hid (visit cs (last + 1 + 1) (ts'', next') b = (ts''.set b (last + 1 + 1), next' ++ [b])) := visit_eq ⟨hcell, by rw [ETB.out]; exact hneg⟩
                      have hj1 := NW'.out.visit (cs := cs) J'.out hbk (by omega)
                      have hj2 := J'.out.visit (cs := cs) (t := last + 1 + 1) hbk (by omega) (by have := NW'.out.num; omega)
                      rw [V1.out] at hj1 hj2
                      have hnx2 := hj1.le hj2.len
                      simp only [List.length_append, List.length_cons, List.length_nil] at hnx2
                      have HJ1 := Lib.hid hj1
                      have HJ2 := Lib.hid hj2
                      obtain ⟨ho2, hg2⟩ := HO.out.stored b (.int .i64 (last + 1 + 1))
                      have HL2 := Lib.hid (own_kept HL.out (u := .slice (some ⟨gt, 0, none⟩) N N) hg2 HD.out.symm)
                      have HN2 := Lib.hid (own_kept HON.out (u := .slice (some ⟨gt, 0, none⟩) N N) hg2 HD2.out.symm)
                      have HB2 := Lib.hid (own_kept HOB.out (u := .slice (some ⟨gt, 0, none⟩) N N) hg2 HE2.out)
                      have HBW := Lib.hid (HB.out.grown hg2 HB.out.size (fun j e => by injection e with e; omega))
                      have hz2 := HBW.out.size
                      have HO2 := Lib.hid ho2
                      clear hcell hj1 hj2 ho2 hg2
                      go_wp2_with (at_builtin; refine wpList_append_one (W := wr.setCell ⟨gt, b, none⟩ (.int .i64 (last + 1 + 1))) rfl _ _ _ rfl v.heap.size 2 (.int .i64 0) 8 Try.underlying28 intInfo rfl An next'.length cn _ rfl HN2.out (.int .i64 (b : Int)) _ rfl (by simp) rfl (by unfold maxLen; omega) (by omega) hz2 ?_; intro A3 c3 w3 ho3 hg3 hd3)
                      go_roundw
                      case rel =>
                        refine ⟨m + 1, ts''.set b (last + 1 + 1), next' ++ [b], A3, c3, by omega, by go_num, by simp, ?_, own_kept HL2.out hg3 HD3.out, ?_, own_kept HB2.out hg3 HE4.out, ?_, ?_, HE2.out, ?_, HBW.out.grown hg3 hz2 (fun j e => (HN2.out.lt j e).1), HJ2, HJ1, by simp; omega, ?_, ?_⟩
                        · rw [List.map_set]; exact own_kept HO2.out hg3 HD2.out
                        · rw [List.length_append, List.map_append]; exact ho3
                        · rw [List.length_append]; exact (hd3 _ (Old.own HO2.out) HD2.out.symm).symm
                        · rw [List.length_append]; exact (hd3 _ (Old.own HL2.out) HD3.out.symm).symm
                        · rw [List.length_append]; exact (hd3 _ (Old.own HB2.out) HE4.out.symm).symm
                        · intro i' hi'
                          have h1 := visit_keep (cs := cs) (t := last + 1 + 1) (st := (ts'', next')) (b := b) (i := i') (by have := T''.out i' hi'; simp only; omega)
                          rw [V1.out] at h1
                          exact h1.trans (T''.out i' hi')
                        · have hv := HV'.out
                          rw [visits_drop hib, EB.out, V1.out] at hv
                          exact hv
                      case measure => simp [intOf]; omega
                    · have V1 : Hid (visit cs (last + 1 + 1) (ts'', next') b = (ts'', next')) := visit_ne (by rw [ETB.out]; exact fun h => hneg h.2)
                      clear hcell
                      go_wp2
                      go_roundw
                      case rel =>
                        refine ⟨m + 1, ts'', next', An, cn, by omega, by go_num, rfl, HO.out, HL.out, HON.out, HOB.out, HD2.out, HD3.out, HE2.out, HE4.out, HB.out, J', NW', hnx', T'', ?_⟩
                        have hv := HV'.out
                        rw [visits_drop hib, EB.out, V1.out] at hv
                        exact hv
                      case measure => simp [intOf]; omega
                · obtain rfl : m = nn := by omega
                  have hv := HV'.out
                  rw [← BS.out.2.1, List.drop_length] at hv
                  have HVV := Lib.hid hv
                  have HO := Lib.hid ho
                  have HL := Lib.hid hol
                  have HON := Lib.hid hon
                  have HD2 := Lib.hid hd2
                  have HD3 := Lib.hid hd3
                  clear ho hol hon hd2 hd3 hv he2 he4 hob
                  go_wp2
                  go_roundw
                  case rel =>
                    refine ⟨j + 1, ts'', next', An, cn, by omega, by go_num, rfl, HO.out, HL.out, HON.out, HD2.out, HD3.out, hb, J', NW', hnx', T'', ?_⟩
                    have h := HV.out
                    rw [level_drop hlt3, EI.out] at h
                    have e1 : lstep cs (nbs k H) (ts', next) i = (ts'', next') := by
                      unfold lstep
                      rw [(getD_pos HT.out (by omega)).1, BS.out.2.2]
                      exact HVV.out.symm
                    rw [e1] at h
                    exact h
                  case measure => simp [intOf]; omega
            · obtain rfl : j = now.length := by omega
              have hv := HV.out
              rw [List.drop_length] at hv
              have HO := Lib.hid ho
              have HON := Lib.hid hon
              have HD2 := Lib.hid hd2
              have HVV := Lib.hid hv
              clear ho hol hon hd2 hd3 hv
              go_wp2
              go_roundg F
              case measure => omega
              case rel =>
                have hlv : level cs (nbs k H) now (ts, []) = (ts', next) := HVV.out.symm
                refine ⟨ts', next, last + 1, An, cn, rfl, by go_num, HO.out, HON.out, HD2.out, hb, J, hnx, by omega, by omega, NW.out.at_, fun h => ?_, ?_⟩
                · have h1 := HF.out HNE.out
                  have h2 : 0 < next.length := List.length_pos_iff.2 h
                  have h3 := NW.out.num
                  have h4 := HC0.out
                  omega
                · have h := HR.out
                  unfold lrun at h
                  rw [if_neg HNE.out, hlv] at h
                  exact h
        · have hnow : now = [] := List.eq_nil_of_length_eq_zero (by omega)
          have hR : (ts, last) = R := by
            have h := HR.out
            rw [hnow] at h
            unfold lrun at h
            cases gk with
            | zero => exact h
            | succ f => simpa using h
          have HRR := Lib.hid hR
          have hn0 : now.length = 0 := by omega
          have HO := Lib.hid ho
          clear hR hnow hol ho hd
          go_wp2
          go_ret2
          refine ⟨Ao, N, ?_, ?_, ?_⟩
          · rw [HR0.out, ← HRR.out]; rfl
          · rw [HR0.out, ← HRR.out]; exact own_base HO.out (by have := HVZ.out; omega)
          · exact HW.out.trans (hb.mono (by have := HVZ.out; omega))
end Go.Proofs.Ytknonmfffcjonaa

/- Walk and plain law: holes: groups of empty cells none of which lies at the edge. Conditions: sides of 1 to 16. -/
import Derived.Test.YtejmpijihmmajaaGmg
import Derived.Test.YtejmpijihmmajaaGmc
import Derived.Test.YtejmpijihmmajaaKa
import Derived.Test.YtejmpijihmmajaaSd
namespace Go.Proofs.Ytejmpijihmmajaa
open Go.RowKit

section
variable {cs : List Bool} {N : Nat} {nb : Nat → List Nat}
theorem grp_more {i : Nat} {t0 sz ts : List Int} {D : List Nat} (ih : ∀ g : Nat, g < sz.length → ∃ j < N, t0.getD j 0 = (g : Int)) (c : cs.getD i false = true ∧ t0.getD i 0 < 0) (s : Srch cs N nb t0 sz.length i ts D []) (x : Int) :
    ∀ g : Nat, g < (sz ++ [x]).length → ∃ j < N, ts.getD j 0 = (g : Int) := by
  intro g hg
  rcases Nat.lt_or_ge g (sz.length) with h1 | h1
  · obtain ⟨j, hj, e⟩ := ih g h1
    refine ⟨j, hj, ?_⟩
    by_cases hn : ts.getD j 0 = (sz.length : Int)
    · exfalso
      have hm := (s.mark j hj).1 hn
      have hr := s.reach j hm
      have : t0.getD j 0 < 0 := Reach.neg (cs := cs) (nb := nb) c.2 hr
      omega
    · rw [s.keep j hj hn, e]
  · have e : g = sz.length := by simp at hg; omega
    have hi : i < N := s.lt i s.root
    exact ⟨i, hi, by rw [(s.mark i hi).2 s.root, e]⟩
/-- Each group has a cell. -/
theorem grp_cell : ∀ {i : Nat} {ts sz : List Int}, Grp cs N nb i ts sz → ∀ g : Nat, g < sz.length → ∃ j < N, ts.getD j 0 = (g : Int) := by
  intro i
  induction i with
  | zero => intro ts sz h g hg; cases h; simp at hg
  | succ i ih =>
    intro ts sz h
    cases h with
    | skip a c => exact ih a
    | more a c s => exact grp_more (ih a) c s _
end
/-- Which groups have a cell at the edge, out of the first k cells. -/
structure Opn (W H : Nat) (ts : List Int) (n k : Nat) (O : List Bool) : Prop where
  len : O.length = n
  iff : ∀ g < n, O.getD g false = true ↔ ∃ i < k, ts.getD i 0 = (g : Int) ∧ (nbs W H i).length < 4
theorem getD_setB {O : List Bool} {a b : Nat} (h : a < O.length) : (O.set a true).getD b false = if b = a then true else O.getD b false := by
  rw [List.getD_eq_getElem?_getD, List.getD_eq_getElem?_getD, List.getElem?_set]
  by_cases e : a = b
  · subst e; rw [if_pos rfl, if_pos rfl]; simp [h]
  · rw [if_neg e, if_neg (fun e2 => e e2.symm)]
theorem Opn.zero (W H : Nat) (ts : List Int) (n : Nat) : Opn W H ts n 0 (List.replicate n false) := by
  refine ⟨by simp, fun g hg => ⟨fun h => ?_, fun ⟨i, hi, _⟩ => by omega⟩⟩
  rw [List.getD_eq_getElem?_getD, List.getElem?_replicate] at h
  split at h <;> simp at h
theorem Opn.skip {W H n k : Nat} {ts : List Int} {O : List Bool} (h : Opn W H ts n k O) (hc : ¬ (0 ≤ ts.getD k 0 ∧ (nbs W H k).length < 4)) : Opn W H ts n (k + 1) O := by
  refine ⟨h.len, fun g hg => ⟨fun h1 => ?_, fun ⟨i, hi, h1, h2⟩ => ?_⟩⟩
  · obtain ⟨i, hi, h2⟩ := (h.iff g hg).1 h1
    exact ⟨i, by omega, h2⟩
  · by_cases e : i = k
    · subst e; exact absurd ⟨by omega, h2⟩ hc
    · exact (h.iff g hg).2 ⟨i, by omega, h1, h2⟩
theorem Opn.put {W H n k g : Nat} {ts : List Int} {O : List Bool} (h : Opn W H ts n k O) (hg : ts.getD k 0 = (g : Int)) (hgn : g < n) (h4 : (nbs W H k).length < 4) : Opn W H ts n (k + 1) (O.set g true) := by
  refine ⟨by rw [List.length_set, h.len], fun b hb => ?_⟩
  rw [getD_setB (by rw [h.len]; exact hgn)]
  by_cases e : b = g
  · subst e
    rw [if_pos rfl]
    exact ⟨fun _ => ⟨k, by omega, hg, h4⟩, fun _ => rfl⟩
  · rw [if_neg e]
    refine ⟨fun h1 => ?_, fun ⟨i, hi, h1, h2⟩ => ?_⟩
    · obtain ⟨i, hi, h2⟩ := (h.iff b hb).1 h1
      exact ⟨i, by omega, h2⟩
    · by_cases e2 : i = k
      · subst e2; rw [hg] at h1; omega
      · exact (h.iff b hb).2 ⟨i, by omega, h1, h2⟩
/-- A number of holes. -/
def Holes (cs : List Bool) (W H N : Nat) (x : Nat) : Prop := ∃ ts sz O, Grp (cs.map (!·)) N (nbs W H) N ts sz ∧ Opn W H ts sz.length N O ∧ x = O.countP (fun b => !b)
theorem iv_at {ts : List Int} {N k : Nat} (hl : ts.length = N) (h : k < N) : (ts.map iv)[k]? = some (.int .i64 (ts.getD k 0)) := by
  have h : k < ts.length := by omega
  rw [List.getElem?_map, List.getD_eq_getElem?_getD, List.getElem?_eq_getElem h]
  rfl
theorem not_getD {cs : List Bool} {N : Nat} (hl : cs.length = N) : ∀ i < N, (cs.map (!·)).getD i false = !cs.getD i false := by
  intro i hi
  have h : i < cs.length := by omega
  rw [List.getD_eq_getElem?_getD, List.getElem?_map, List.getElem?_eq_getElem h, List.getD_eq_getElem?_getD, List.getElem?_eq_getElem h]; rfl
theorem countP_take {O : List Bool} {k : Nat} (h : k < O.length) : (O.take (k + 1)).countP (fun b => !b) = (O.take k).countP (fun b => !b) + if O.getD k false then 0 else 1 := by
  rw [List.take_add_one, List.getElem?_eq_getElem h, List.getD_eq_getElem?_getD, List.getElem?_eq_getElem h, List.countP_append]
  cases O[k] <;> simp [List.countP_cons, List.countP_nil]
set_option maxRecDepth 100000 in
set_option maxHeartbeats 4000000 in
theorem HolesOf_ok (W H N : Nat) (A : Option Addr) (c : Nat) (cs : List Bool) (w : World) (hW : 1 ≤ W) (hW' : W ≤ 16) (hH : 1 ≤ H) (hH' : H ≤ 16) (hl : cs.length = N) (hP : W * H = N)
    (hA : Rd w w.heap.size 1 A N (cs.map bv)) :
    Calls Try.prog 12 #[fieldV W H A N c] w fun e w' => ∃ x : Nat, e = .returned (.tuple #[.int .i64 (x : Int), .bool true]) ∧ Holes cs W H N x ∧ Below w.heap.size w w' := by
  obtain ⟨i0, hi0, hz0, hz1, hz2⟩ := info_parts boolInfo
  have hN : N ≤ 256 := by have := Nat.mul_le_mul hW' hH'; omega
  obtain ⟨v, ev⟩ : ∃ v, v = w.alloc (.cells #[.int .i64 (W : Int), .int .i64 (H : Int), .slice A N c] 26) := ⟨_, rfl⟩
  have K0 : Blk v w.heap.size 26 #[.int .i64 (W : Int), .int .i64 (H : Int), .slice A N c] := by rw [ev]; exact Blk.new _ _ _
  have V0 : Hid (Below w.heap.size w v) := by rw [ev]; exact (Below.refl _ _).alloc (Nat.le_refl _) _
  have VF := ValidField_any (W : Int) (H : Int) A N c v
  rw [valid_wh hW hW' hH hH' hP] at VF
  have VFH := Lib.hid VF
  have b0 : v.cell? ⟨w.heap.size, 0, none⟩ = some (.int .i64 (W : Int)) := K0.cell 0
  have b1' : v.cell? ⟨w.heap.size, 1, none⟩ = some (.int .i64 (H : Int)) := K0.cell 1
  have b2 : v.cell? ⟨w.heap.size, 2, none⟩ = some (.slice A N c) := K0.cell 2
  have KV := Lib.hid K0
  have HA := Lib.hid hA
  have HL := Lib.hid hl
  have HP := Lib.hid hP
  have EV := Lib.hid ev
  rw [ev] at b0 b1' b2
  unfold fieldV at VFH
  unfold fieldV
  clear VF K0 hA hl ev hP
  go_enter Try.func12, Try.ntmps12
  go_wp2_with fail
  rw [← EV.out]
  refine VFH.out.mono ?_
  rintro e w1 ⟨rfl, hb⟩
  have K1 := Lib.hid (KV.out.below hb KV.out.lt)
  have V1 := Lib.hid (V0.out.trans (hb.mono V0.out.size))
  clear hb b0 b1' b2 VFH
  have k0 := K1.out.cell 0
  have k1 := K1.out.cell 1
  have k2 := K1.out.cell 2
  have GC := Lib.hid (grouped_any W H N A c w.heap.size cs (cs.map (!·)) w1 hW hW' hH hH' (by rw [List.length_map, HL.out]) HL.out (not_getD HL.out) HP.out K1.out.lt k2 ((HA.out.below V1.out).more V1.out.size))
  go_wp2_with fail
  refine GC.out.mono ?_
  rintro e w2 ⟨ts, sz, A', As, ct, cz, rfl, G, ho, hs, hd, hb2⟩
  have G2 := Lib.hid G.out.inv
  have hszN : sz.length ≤ N := G2.out.num
  have K2 := Lib.hid (K1.out.below hb2 K1.out.lt)
  have V2 := Lib.hid (V1.out.trans (hb2.mono V1.out.size))
  have RT := Lib.hid (Rd.own ho)
  clear k0 k1 k2 GC ho hs hd hb2
  obtain ⟨n, en⟩ : ∃ n, sz.length = n := ⟨_, rfl⟩
  have HEN := Lib.hid en
  rw [en] at hszN ⊢
  clear en
  go_wp2_with (at_make; refine wpList_make_full _ rfl _ _ _ rfl w2.heap.size 4 i0 (.bool false) 1 Try.underlying24 hi0 hz0 hz1 .i64 .i64 n n n rfl rfl rfl rfl (by rw [hz2]; omega) (by unfold maxLen; omega) (Nat.le_refl _) ?_; intro w3 ho3 hg3)
  rw [made_bool] at ho3
  have b3 := below_of_grown (B := w2.heap.size) hg3 (Nat.le_refl _) (by simp)
  have V3 := Lib.hid (V2.out.trans (b3.mono V2.out.size))
  have K3 := Lib.hid (K2.out.below b3 K2.out.lt)
  have RT3 := Lib.hid ((RT.out.below b3).more (by exact Nat.le_refl _))
  obtain ⟨go, ego⟩ : ∃ g, w2.heap.size = g := ⟨_, rfl⟩
  have O3 : Hid (w3.ownsRow go 4 1 (.slice (some ⟨go, 0, none⟩) n n) n ((List.replicate n false).map bv)) := by rw [← ego]; exact Lib.hid ho3
  have hgoz : w.heap.size < go := by rw [← ego]; exact K2.out.lt
  have RT4 : Hid (Rd w3 go 1 A' N (ts.map iv)) := by rw [← ego]; exact RT3
  rw [ego]
  clear ho3 hg3 b3 ego RT RT3
  go_wp2
  go_loopw [29] (fun si wr => ∃ (k : Nat) (O : List Bool), k ≤ N ∧ si = .int .i64 (k : Int) ∧ Hid (Opn W H ts n k O) ∧ Hid (wr.ownsRow go 4 1 (.slice (some ⟨go, 0, none⟩) n n) n (O.map bv)) ∧ Hid (Rd wr go 1 A' N (ts.map iv)) ∧
    Hid (Blk wr w.heap.size 26 #[.int .i64 (W : Int), .int .i64 (H : Int), .slice A N c]) ∧ Hid (Below w.heap.size w wr)) (fun i _ => N - (intOf i).toNat)
  case atStart => exact ⟨0, _, Nat.zero_le _, rfl, Lib.hid (Opn.zero W H ts n), O3, RT4, K3, V3⟩
  case round =>
    clear O3 RT4 K3 V3
    obtain ⟨k, O, hk, rfl, HOP, HO, HR, HK, HB⟩ := hrel
    by_cases hlt : k < N
    · obtain ⟨b, off, rfl, hbb, hc⟩ := HR.out.2 (by omega)
      have cT := hc k _ (iv_at G2.out.len hlt)
      obtain ⟨t, et⟩ : ∃ t, ts.getD k 0 = t := ⟨_, rfl⟩
      rw [et] at cT
      have ET := Lib.hid et
      have htn : t < (n : Int) := by rw [← et, ← HEN.out]; exact G2.out.hi k hlt
      have hkI : (k : Int) < (N : Int) := by omega
      clear et hc
      by_cases h0 : 0 ≤ t
      · obtain ⟨g, rfl⟩ : ∃ g : Nat, t = (g : Int) := ⟨t.toNat, by omega⟩
        have hgn : g < n := by omega
        have k0 := HK.out.cell 0
        have k1 := HK.out.cell 1
        have k2 := HK.out.cell 2
        have SC := Lib.hid (sides_any W H k (.slice (some ⟨0, 0, none⟩) N c) wr rfl hW hW' hH hH' (by rw [HP.out]; exact hlt))
        have SC2 : Hid (∀ x : Value, x.oneCell' = true → Calls Try.prog 31 #[.agg #[.int .i64 W, .int .i64 H, x], .int .i64 k] wr fun e w' => ∃ A n c, e = .returned (.slice A n c) ∧ w'.ownsRow wr.heap.size 2 1 (.slice A n c) n ((nbs W H k).map nv) ∧ Below wr.heap.size wr w') := Lib.hid fun x hx => sides_any W H k x wr hx hW hW' hH hH' (by rw [HP.out]; exact hlt)
        clear SC
        go_wp2_with fail
        refine (SC2.out _ rfl).mono ?_
        rintro e w4 ⟨A4, n4, c4, rfl, ho4, hb4⟩
        have hn4 : Hid ((nbs W H k).length = n4) := by have := ho4.1; simp at this; exact Lib.hid this
        have O4 := Lib.hid (own_below HO.out hb4)
        have R4 := Lib.hid (HR.out.below (hb4.mono (by have := (HO.out.lt go rfl).2; omega)))
        have K4 := Lib.hid (HK.out.below hb4 HK.out.lt)
        have V4 := Lib.hid (HB.out.trans (hb4.mono HB.out.size))
        clear ho4 hb4 k0 k1 k2 HO HR HK HB
        by_cases h4 : n4 < 4
        · have h4I : (n4 : Int) < 4 := by omega
          have hol : O.length = n := HOP.out.len
          have cB : w4.cell? ⟨go, g, none⟩ = some (.bool (O.getD g false)) := by rw [O4.out.cellAt _ (by omega), bv_at hol hgn]
          have fB : w4.frozen? ⟨go, g, none⟩ = false := O4.out.frozenAt _
          obtain ⟨ho5, hg5⟩ := O4.out.stored g (.bool true)
          have K5 := Lib.hid (K4.out.grown hg5 (fun e => by injection e with e; omega))
          have V5 := Lib.hid (V4.out.grown hg5 V4.out.size (fun j e => by injection e with e; omega))
          have R5 := Lib.hid (R4.out.below (below_of_grown (B := go) hg5 (by have := (O4.out.lt go rfl).2; omega) (fun j e => by injection e with e; omega)))
          have O5 : Hid ((w4.setCell ⟨go, g, none⟩ (.bool true)).ownsRow go 4 1 (.slice (some ⟨go, 0, none⟩) n n) n ((O.set g true).map bv)) := by rw [List.map_set]; exact Lib.hid ho5
          have OP5 := Lib.hid (HOP.out.put ET.out hgn (by rw [hn4.out]; exact h4))
          have hgI : (g : Int) < (n : Int) := by omega
          clear ho5 hg5 hol
          generalize O.getD g false = ob at *
          go_wp2
          go_roundw
          case rel => exact ⟨k + 1, _, by omega, by go_num, OP5, O5, R5, K5, V5⟩
          case measure => simp [intOf]; omega
        · have OP5 := Lib.hid (HOP.out.skip (by rw [hn4.out]; omega))
          go_wp2
          go_roundw
          case rel => exact ⟨k + 1, O, by omega, by go_num, OP5, O4, R4, K4, V4⟩
          case measure => simp [intOf]; omega
      · have OP5 := Lib.hid (HOP.out.skip (by rw [ET.out]; omega))
        go_wp2
        go_roundw
        case rel => exact ⟨k + 1, O, by omega, by go_num, OP5, HO, HR, HK, HB⟩
        case measure => simp [intOf]; omega
    · obtain rfl : k = N := by omega
      have hol : O.length = n := HOP.out.len
      have HHOL : Hid (Holes cs W H k (O.countP (fun b => !b))) := Lib.hid ⟨ts, sz, O, G.out, by rw [HEN.out]; exact HOP.out, rfl⟩
      have RO := Lib.hid (Rd.own HO.out)
      have HOL := Lib.hid hol
      clear hol
      go_wp2
      go_loop [9, 49] (fun sn sj => ∃ j : Nat, j ≤ n ∧ sj = .int .i64 (j : Int) ∧ sn = .int .i64 (((O.take j).countP (fun b => !b) : Nat) : Int)) (fun _ i => n - (intOf i).toNat)
      case atStart => exact ⟨0, Nat.zero_le _, rfl, rfl⟩
      case round =>
        obtain ⟨j, hj, rfl, rfl⟩ := hrel
        by_cases hlj : j < n
        · have cB : wr.cell? ⟨go, j, none⟩ = some (.bool (O.getD j false)) := by rw [HO.out.cellAt _ (by omega), bv_at HOL.out hlj]
          have CT := countP_take (O := O) (k := j) (by rw [HOL.out]; exact hlj)
          have CL : (O.take j).countP (fun b => !b) ≤ j := Nat.le_trans List.countP_le_length (by rw [List.length_take]; omega)
          have hjI : (j : Int) < (n : Int) := by omega
          obtain ⟨m, hm⟩ : ∃ m, (O.take j).countP (fun b => !b) = m := ⟨_, rfl⟩
          obtain ⟨q, hq⟩ : ∃ q, O.getD j false = q := ⟨_, rfl⟩
          rw [hm, hq] at CT
          rw [hq] at cB
          rw [hm] at CL ⊢
          have CTH := Lib.hid CT
          clear CT hm hq
          cases q
          all_goals
            go_wp2
            go_round
            case rel => exact ⟨j + 1, by omega, by go_num, by rw [CTH.out]; first | rfl | go_num⟩
            case measure => simp [intOf]; omega
        · obtain rfl : j = n := by omega
          rw [List.take_of_length_le (by rw [HOL.out]; exact Nat.le_refl _)]
          go_wp2
          go_ret2
          exact ⟨_, rfl, HHOL.out, HB.out⟩
end Go.Proofs.Ytejmpijihmmajaa

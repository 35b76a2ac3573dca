/- Walks: drawn numbers, whether a side of a cell is full, moves: of the program and of the reference. Conditions: the field's sides are from 1 to 16, the cell is in it, seeds are below 2147483648. -/
import Derived.Test.YtknonmfffcjonaaSd
import Derived.Test.YtknonmfffcjonaaVd
import Derived.Test.YtknonmfffcjonaaIp
import Derived.Test.YtknonmfffcjonaaPk
namespace Go.Proofs.Ytknonmfffcjonaa
open Go.RowKit

theorem nxt_cast (s : Nat) : ((1103515245 * (s : Int) + 12345) % 2147483648) = ((nxt s : Nat) : Int) := by unfold nxt; omega
theorem drw_cast (s n : Nat) : ((nxt s : Nat) : Int) / 65536 % (n : Int) = ((drw s n : Nat) : Int) := by unfold drw; simp

theorem ret_int {k : IntKind} {a b : Int} (h : a = b) : Ending.returned (.int k a) = .returned (.int k b) := by rw [h]
theorem ret_two {k : IntKind} {a b c d : Int} (h : a = c) (h' : b = d) : Ending.returned (.tuple #[.int k a, .int k b]) = .returned (.tuple #[.int k c, .int k d]) := by rw [h, h']

set_option maxHeartbeats 400000 in
theorem l07Draw_any (s n : Nat) (w : World) (hs : s ≤ 2147483647) (hn : 1 ≤ n) :
    Calls Try.prog 45 #[.int .i64 (s : Int), .int .i64 (n : Int)] w fun e w' => e = .returned (.tuple #[.int .i64 (drw s n : Nat), .int .i64 (nxt s : Nat)]) ∧ w' = w := by
  have e1 := nxt_cast s
  have e2 := drw_cast s n
  have hx := nxt_lt s
  obtain ⟨x, ex⟩ : ∃ x, nxt s = x := ⟨_, rfl⟩
  obtain ⟨d, ed⟩ : ∃ d, drw s n = d := ⟨_, rfl⟩
  rw [ed] at e2 ⊢
  rw [ex] at e1 e2 hx ⊢
  clear ex ed
  go_enter Try.func45, Try.ntmps45
  go_wp2
  go_ret2
  exact ⟨ret_two e2 e1, rfl⟩
set_option maxHeartbeats 400000 in
theorem nextSeed_any (s : Nat) (w : World) (hs : s ≤ 2147483647) :
    Calls Try.prog 61 #[.int .i64 (s : Int)] w fun e w' => e = .returned (.int .i64 (nxt s : Nat)) ∧ w' = w := by
  have e1 := nxt_cast s
  obtain ⟨x, ex⟩ : ∃ x, nxt s = x := ⟨_, rfl⟩
  rw [ex] at e1 ⊢
  clear ex
  go_enter Try.func61, Try.ntmps61
  go_wp2
  go_ret
  exact ⟨ret_int e1, rfl⟩
set_option maxHeartbeats 400000 in
theorem drawBelow_any (s n : Nat) (w : World) (hs : s ≤ 2147483647) (hn : 1 ≤ n) :
    Calls Try.prog 47 #[.int .i64 (s : Int), .int .i64 (n : Int)] w fun e w' => e = .returned (.tuple #[.int .i64 (nxt s : Nat), .int .i64 (drw s n : Nat)]) ∧ ∃ m, w' = w.drewN m := by
  have e2 := drw_cast s n
  have hx := nxt_lt s
  have NS := Lib.hid (nextSeed_any s w hs)
  obtain ⟨x, ex⟩ : ∃ x, nxt s = x := ⟨_, rfl⟩
  obtain ⟨d, ed⟩ : ∃ d, drw s n = d := ⟨_, rfl⟩
  rw [ed] at e2 ⊢
  rw [ex] at e2 hx NS ⊢
  clear ex ed
  go_enter Try.func47, Try.ntmps47
  go_wp2_with fail
  refine NS.out.mono ?_
  rintro e w5 ⟨rfl, h5⟩
  obtain rfl := h5.symm
  go_wp2
  go_quiet (fail)
  go_wp2
  go_ret2
  exact ⟨ret_two rfl e2, _, rfl⟩

set_option maxRecDepth 100000 in
theorem touchFn_any (i N : Nat) (A : Option Addr) (c g B : Nat) (cs : List Bool) (w : World) (hi : i < N) (hN : N ≤ 256) (hl : cs.length = N) (h2 : w.cell? ⟨g, 2, none⟩ = some (.slice A N c)) (hA : Rd w B 1 A N (cs.map bv)) :
    Calls Try.prog 60 #[.int .i64 (i : Int), .pointer (some ⟨g, 0, none⟩)] w fun e w' => e = .returned (.bool (cs.getD i false)) ∧ w' = w := by
  obtain ⟨b0, off, rfl, hbb, hc⟩ := hA.2 (by omega)
  have hic : i < cs.length := by omega
  have cC : w.cell? ⟨b0, off + i, none⟩ = some (.bool (cs.getD i false)) := by
    refine hc i _ ?_
    rw [List.getElem?_map, List.getElem?_eq_getElem hic, List.getD_eq_getElem?_getD, List.getElem?_eq_getElem hic]; rfl
  generalize cs.getD i false = x at *
  clear hc hic hl
  go_enter Try.func60, Try.ntmps60
  go_wp2
  go_ret
  exact ⟨rfl, rfl⟩

set_option maxRecDepth 100000 in
theorem containsTouch_any (A : Option Addr) (n c B : Nat) (xs : List Int) (p1 : Addr) (p : Int → Bool) (w : World) (hn : n ≤ maxLen) (hB : B ≤ w.heap.size) (hA : Rd w B 1 A n (xs.map iv))
    (hp : ∀ m x, x ∈ xs → Calls Try.prog 60 #[.int .i64 x, .pointer (some p1)] (w.drewN m) fun e w' => e = .returned (.bool (p x)) ∧ ∃ m', w' = w.drewN m') :
    Calls Try.prog 59 #[.slice A n c, .func (.func 60) #[] #[.pointer (some p1)]] w fun e w' => e = .returned (.bool (xs.any p)) ∧ ∃ m', w' = w.drewN m' := by
  have IC := Lib.hid (indexFuncTouch_any A n c B xs p1 p w hn hB hA hp)
  clear hA hp
  go_enter Try.func59, Try.ntmps59
  go_wp2_with fail
  refine IC.out.mono ?_
  rintro e w1 ⟨⟨m, hm⟩, ⟨k, x, hk, he, hx, hpx, hq⟩ | ⟨he, hq⟩⟩
  · subst he
    have HX : Hid (xs.any p = true) := List.any_eq_true.2 ⟨x, List.mem_of_getElem? hx, hpx⟩
    have HM := Lib.hid hm
    clear hm hx hq hpx IC
    go_wp2
    go_ret
    exact ⟨ret_bool (by rw [HX.out]), m, HM.out⟩
  · subst he
    have HX : Hid (xs.any p = false) := by
      unfold Hid
      rw [List.any_eq_false]
      intro y hy
      rw [hq y hy]; simp
    have HM := Lib.hid hm
    clear hm hq IC
    go_wp2
    go_ret
    exact ⟨ret_bool (by rw [HX.out]), m, HM.out⟩

set_option maxRecDepth 100000 in
set_option maxHeartbeats 400000 in
theorem touches_any (W H N i : Nat) (A : Option Addr) (c : Nat) (cs : List Bool) (w : World) (hW : 1 ≤ W) (hW' : W ≤ 16) (hH : 1 ≤ H) (hH' : H ≤ 16) (hl : cs.length = N) (hP : W * H = N) (hi : i < N)
    (hA : Rd w w.heap.size 1 A N (cs.map bv)) :
    Calls Try.prog 46 #[.agg #[.int .i64 W, .int .i64 H, .slice A N c], .int .i64 (i : Int)] w fun e w' => e = .returned (.bool (touch cs (nbs W H i))) ∧ Below w.heap.size w w' := by
  have hN256 : N ≤ 256 := by have := Nat.mul_le_mul hW' hH'; omega
  have hb0 : Below w.heap.size w (w.alloc (.cells #[.int .i64 W, .int .i64 H, .slice A N c] 26)) := (Below.refl _ _).alloc (Nat.le_refl _) _
  have hbk : Hid (Blk (w.alloc (.cells #[.int .i64 W, .int .i64 H, .slice A N c] 26)) w.heap.size 26 #[.int .i64 W, .int .i64 H, .slice A N c]) := Blk.new _ _ _
  have H0 := Lib.hid hb0
  have HL := Lib.hid hl
  have HP := Lib.hid hP
  clear hb0 hl hP
  go_enter Try.func46, Try.ntmps46
  go_wp2_with fail
  refine (sides_any W H i _ _ rfl hW hW' hH hH' (by rw [HP.out]; exact hi)).mono ?_
  rintro e w1 ⟨An, nn, cn, rfl, hn, hb1⟩
  have hbsN : ∀ x ∈ nbs W H i, x < N := fun x hx => by
    have := nbs_lt (W := W) (H := H) (i := i) (b := x) (by rw [HP.out]; exact hi) hx
    rwa [HP.out] at this
  have hnn : (nbs W H i).length = nn := by have := hn.1; simp at this; omega
  have hnn4 : nn ≤ 4 := by rw [← hnn]; unfold nbs nb1 nb2 nb3 nb4; simp only [List.length_append]; repeat' split <;> simp
  have hX : ((nbs W H i).map fun (n : Nat) => (n : Int)).map iv = (nbs W H i).map nv := by rw [List.map_map]; rfl
  have hb1' := H0.out.trans (hb1.mono (by simp))
  have hk1 := hbk.out.below hb1 hbk.out.lt
  have IC := Lib.hid (containsTouch_any An nn cn w1.heap.size ((nbs W H i).map fun (n : Nat) => (n : Int)) ⟨w.heap.size, 0, none⟩ (fun x => cs.getD x.toNat false) w1 (by unfold maxLen; omega) (Nat.le_refl _) (by rw [hX]; exact Rd.own hn) (fun m x hx => by
    simp only [List.mem_map] at hx
    obtain ⟨x', hx', rfl⟩ := hx
    exact (touchFn_any x' N A c w.heap.size w.heap.size cs (w1.drewN m) (hbsN x' hx') hN256 HL.out (hk1.cell 2) (hA.below (below_drewN hb1' m))).mono fun e w' h => ⟨by rw [h.1, Int.toNat_natCast], m, h.2⟩))
  have HB := Lib.hid hb1'
  have TE : Hid (((nbs W H i).map fun (n : Nat) => (n : Int)).any (fun x => cs.getD x.toNat false) = touch cs (nbs W H i)) := by
    unfold Hid touch
    rw [List.any_map]
    congr 1
  clear hn hb1 hb1' hk1 hbsN hX hnn
  go_wp2_with fail
  refine IC.out.mono ?_
  rintro e w2 ⟨rfl, m, h2⟩
  have HB2 : Hid (Below w.heap.size w w2) := h2 ▸ below_drewN HB.out m
  clear h2
  rw [TE.out]
  go_wp2
  go_ret
  exact ⟨rfl, HB2.out⟩

set_option maxRecDepth 100000 in
set_option maxHeartbeats 1000000 in
theorem l07Touches_any (W H N i : Nat) (A : Option Addr) (c g : Nat) (cs : List Bool) (w : World) (hW : 1 ≤ W) (hW' : W ≤ 16) (hH : 1 ≤ H) (hH' : H ≤ 16) (hl : cs.length = N) (hP : W * H = N) (hi : i < N)
    (hb : Blk w g 26 #[.int .i64 W, .int .i64 H, .slice A N c]) (hA : Rd w w.heap.size 1 A N (cs.map bv)) :
    Calls Try.prog 44 #[.pointer (some ⟨g, 0, none⟩), .int .i64 (i : Int)] w fun e w' => e = .returned (.bool (touch cs (nbs W H i))) ∧ Below w.heap.size w w' := by
  have hgl := hb.lt
  have hN256 : N ≤ 256 := by have := Nat.mul_le_mul hW' hH'; omega
  have k0 : ∀ w', Below w.heap.size w w' → w'.cell? ⟨g, 0, none⟩ = some (.int .i64 W) ∧ w'.cell? ⟨g, 1, none⟩ = some (.int .i64 H) ∧ w'.cell? ⟨g, 2, none⟩ = some (.slice A N c) := fun w' h => ⟨(h.cell hgl).trans (hb.cell 0), (h.cell hgl).trans (hb.cell 1), (h.cell hgl).trans (hb.cell 2)⟩
  obtain ⟨d0, d1, d2⟩ := k0 w (Below.refl _ _)
  have K0 := Lib.hid k0
  have HL := Lib.hid hl
  have HP := Lib.hid hP
  clear k0 hb hl hP
  go_enter Try.func44, Try.ntmps44
  go_wp2
  go_region_held3 (fun w' => w'.cell? ⟨g, 0, none⟩ = some (.int .i64 W) ∧ w'.cell? ⟨g, 1, none⟩ = some (.int .i64 H) ∧ Below w.heap.size w w')
    (first | exact ⟨d0, d1, (Below.refl _ _).drew⟩ | exact ⟨(K0.out _ ((Below.refl _ _).drew.trans hb1)).1, (K0.out _ ((Below.refl _ _).drew.trans hb1)).2.1, (Below.refl _ _).drew.trans hb1⟩)
    (first
      | (go_at_call 58; refine (beside_any W H i _ hW hW' hH hH' (by rw [HP.out]; exact hi)).mono ?_; rintro e w1 ⟨An, nn, cn, rfl, hn, hb1⟩))
  have hb1' := (Below.refl w.heap.size w).drew.trans hb1
  obtain ⟨bs, ebs⟩ : ∃ bs, nbs W H i = bs := ⟨_, rfl⟩
  have hbsN : ∀ x ∈ nbs W H i, x < N := fun x hx => by
    have := nbs_lt (W := W) (H := H) (i := i) (b := x) (by rw [HP.out]; exact hi) hx
    rwa [HP.out] at this
  rw [ebs] at hn hbsN
  have hnn : bs.length = nn := by have := hn.1; simp at this; omega
  have hnn4 : nn ≤ 4 := by rw [← hnn, ← ebs]; unfold nbs nb1 nb2 nb3 nb4; simp only [List.length_append]; repeat' split <;> simp
  have BS := Lib.hid (And.intro hbsN hnn)
  have EBS := Lib.hid ebs
  have HN := Lib.hid hn
  have HB1 := Lib.hid hb1'
  clear hn hbsN hnn ebs hb1 hb1' d0 d1 d2
  go_wp2
  go_loopw [19] (fun sk wr => ∃ k m : Nat, k ≤ nn ∧ sk = .int .i64 k ∧ wr = w1.drewN m ∧ Hid (∀ b ∈ bs.take k, cs.getD b false = false)) (fun sk _ => nn - (intOf sk).toNat)
  case atStart => exact ⟨0, 0, Nat.zero_le _, rfl, rfl, by simp [Hid]⟩
  case round =>
    obtain ⟨k, m, hk, rfl, hwr, hq⟩ := hrel
    have hbr : Below w.heap.size w wr := hwr ▸ below_drewN HB1.out m
    have HWR := Lib.hid hwr
    by_cases hlt : k < nn
    · obtain ⟨gn, cn', hvn, _, hgn'⟩ := HN.out.form (by omega)
      obtain ⟨rfl, rfl⟩ : An = some ⟨gn, 0, none⟩ ∧ cn = cn' := by injection hvn with h1 _ h3; exact ⟨h1, h3⟩
      have hkb : k < bs.length := by rw [BS.out.2]; exact hlt
      obtain ⟨y, ey⟩ : ∃ y, bs[k] = y := ⟨_, rfl⟩
      have hym : y ∈ bs := ey ▸ List.getElem_mem hkb
      have hyN : y < N := BS.out.1 y hym
      have ey' : bs[k]? = some y := by rw [← ey]; exact List.getElem?_eq_getElem hkb
      have cB : wr.cell? ⟨gn, k, none⟩ = some (.int .i64 (y : Int)) := by
        rw [hwr]
        show w1.cell? _ = _
        rw [HN.out.cellAt _ (by omega), List.getElem?_map, ey']; rfl
      obtain ⟨b0, off, rfl, hbb, hc⟩ := hA.2 (by omega)
      have hyc : y < cs.length := by rw [HL.out]; exact hyN
      have cC : wr.cell? ⟨b0, off + y, none⟩ = some (.bool (cs.getD y false)) := by
        refine (hbr.cell hbb).trans (hc y _ ?_)
        rw [List.getElem?_map, List.getElem?_eq_getElem hyc, List.getD_eq_getElem?_getD, List.getElem?_eq_getElem hyc]; rfl
      obtain ⟨d0, d1, d2⟩ := K0.out wr hbr
      have hyN0 : (y : Int) < (N : Int) := by omega
      have hkn0 : (k : Int) < (nn : Int) := by omega
      have HBr := Lib.hid hbr
      have EY := Lib.hid ey'
      have YM := Lib.hid hym
      obtain ⟨q, hqq⟩ : ∃ q, cs.getD y false = q := ⟨_, rfl⟩
      rw [hqq] at cC
      have HQ := Lib.hid hqq
      clear hc ey ey' hym hwr hbr hvn hqq hyc
      cases q
      · have M : Hid (∀ b ∈ bs.take (k + 1), cs.getD b false = false) := by
          intro b hb
          rw [List.take_add_one, EY.out] at hb
          simp at hb
          rcases hb with hb | rfl
          · exact hq.out b hb
          · exact HQ.out
        go_wp2
        go_quiet (fail)
        go_wp2
        go_roundw
        case rel => exact ⟨k + 1, _, by omega, by go_num, by rw [HWR.out]; exact World.drewN_drewN _ _ _, M⟩
        case measure => simp [intOf]; omega
      · have T : Hid (touch cs (nbs W H i) = true) := by rw [EBS.out]; exact touch_some YM.out HQ.out
        go_wp2
        go_quiet (fail)
        go_wp2
        go_ret
        exact ⟨ret_bool T.out.symm, below_drewN HBr.out _⟩
    · obtain rfl : k = nn := by omega
      have T : Hid (touch cs (nbs W H i) = false) := by rw [EBS.out]; exact touch_none (fun b hb => hq.out b (by rw [← BS.out.2, List.take_length]; exact hb))
      clear hwr
      go_wp2
      go_ret
      exact ⟨ret_bool T.out.symm, hbr⟩
theorem moved_0 (W H i : Nat) : moved W H i 0 = if 1 ≤ i / W then (i / W - 1) * W + i % W else i := by unfold moved; rw [if_pos rfl]
theorem moved_1 (W H i : Nat) : moved W H i 1 = if 1 ≤ i % W then i / W * W + (i % W - 1) else i := by unfold moved; rw [if_neg (by omega), if_pos rfl]
theorem moved_2 (W H i : Nat) : moved W H i 2 = if i % W + 1 < W then i / W * W + (i % W + 1) else i := by unfold moved; rw [if_neg (by omega), if_neg (by omega), if_pos rfl]
theorem moved_3 (W H i d : Nat) (h : 3 ≤ d) : moved W H i d = if i / W + 1 < H then (i / W + 1) * W + i % W else i := by unfold moved; rw [if_neg (by omega), if_neg (by omega), if_neg (by omega)]

set_option maxRecDepth 100000 in
set_option maxHeartbeats 1000000 in
theorem moved_any (W H i d : Nat) (x : Value) (w : World) (hx : x.oneCell' = true) (hW : 1 ≤ W) (hW' : W ≤ 16) (hH : 1 ≤ H) (hH' : H ≤ 16) (hi : i < W * H) (hd : d < 4) :
    Calls Try.prog 56 #[.agg #[.int .i64 W, .int .i64 H, x], .int .i64 (i : Int), .int .i64 (d : Int)] w fun e w' => e = .returned (.int .i64 (moved W H i d : Nat)) ∧ Below w.heap.size w w' := by
  obtain ⟨m, hm, hmW, Hm⟩ : ∃ m : Nat, (i : Int) % (W : Int) = (m : Int) ∧ m < W ∧ Hid (i % W = m) := ⟨i % W, by omega, Nat.mod_lt _ (by omega), rfl⟩
  obtain ⟨q, hq, hqH, Hq⟩ : ∃ q : Nat, (i : Int) / (W : Int) = (q : Int) ∧ q < H ∧ Hid (i / W = q) := ⟨i / W, by simp, Nat.div_lt_of_lt_mul hi, rfl⟩
  have hi256 : i < 256 := by have := Nat.mul_le_mul hW' hH'; omega
  have hmt : (i : Int).tmod (W : Int) = (m : Int) := by rw [Int.tmod_eq_emod_of_nonneg (by omega)]; exact hm
  have hqt : (i : Int).tdiv (W : Int) = (q : Int) := by rw [Int.tdiv_eq_ediv_of_nonneg (by omega)]; exact hq
  have hW0 : ¬ (W : Int) = 0 := by omega
  have HB0 : Hid (Below w.heap.size w (w.alloc (.cells #[.int .i64 W, .int .i64 H, x] 26))) := (Below.refl _ _).alloc (Nat.le_refl _) _
  obtain ⟨d', hd'⟩ : ∃ d', moved W H i d = d' := ⟨_, rfl⟩
  rw [hd']
  obtain rfl | rfl | rfl | rfl : d = 0 ∨ d = 1 ∨ d = 2 ∨ d = 3 := by omega
  · rw [moved_0, Hm.out, Hq.out] at hd'
    by_cases hc : 1 ≤ q
    · rw [if_pos hc] at hd'
      obtain ⟨p, hp, hpl⟩ : ∃ p : Nat, ((q : Int) - 1) * (W : Int) = (p : Int) ∧ p ≤ 256 := ⟨(q - 1) * W, by first | (rw [Int.natCast_mul]; done) | (rw [Int.natCast_mul, Int.natCast_sub hc]; rfl) | (rw [Int.natCast_mul]; rfl), by have := Nat.mul_le_mul (show q - 1 ≤ 16 by omega) hW'; omega⟩
      have hd2 : (p : Int) + (m : Int) = (d' : Int) := by rw [← hp, ← hd']; first | (rw [Int.natCast_add, Int.natCast_mul]; done) | (rw [Int.natCast_add, Int.natCast_mul, Int.natCast_sub hc]; rfl) | (rw [Int.natCast_add, Int.natCast_mul]; rfl)
      have b1 : inB (m : Int) 0 ((W : Int) - 1) = true := by unfold inB; simp; omega
      have b2 : inB ((q : Int) - 1) 0 ((H : Int) - 1) = true := by unfold inB; simp; omega
      have B1 := Lib.hid b1
      have B2 := Lib.hid b2
      have E2 := Lib.hid hd2
      clear b1 b2 hd' hd2
      go_enter Try.func56, Try.ntmps56
      go_wp2
      go_quiet (fail)
      go_wp2_with fail
      refine (within_any _ _ _ _).mono ?_
      rintro e w5 ⟨rfl, h5⟩
      obtain rfl := h5.symm
      rw [B1.out]
      go_wp2_with fail
      refine (within_any _ _ _ _).mono ?_
      rintro e w5 ⟨rfl, h5⟩
      obtain rfl := h5.symm
      rw [B2.out]
      go_wp2
      go_ret
      exact ⟨ret_int E2.out, below_drewN HB0.out _⟩
    · rw [if_neg hc] at hd'
      subst hd'
      have b1 : inB (m : Int) 0 ((W : Int) - 1) = true := by unfold inB; simp; omega
      have b2 : inB ((q : Int) - 1) 0 ((H : Int) - 1) = false := by unfold inB; simp; omega
      have B1 := Lib.hid b1
      have B2 := Lib.hid b2
      clear b1 b2
      go_enter Try.func56, Try.ntmps56
      go_wp2
      go_quiet (fail)
      go_wp2_with fail
      refine (within_any _ _ _ _).mono ?_
      rintro e w5 ⟨rfl, h5⟩
      obtain rfl := h5.symm
      rw [B1.out]
      go_wp2_with fail
      refine (within_any _ _ _ _).mono ?_
      rintro e w5 ⟨rfl, h5⟩
      obtain rfl := h5.symm
      rw [B2.out]
      go_wp2
      go_ret
      exact ⟨rfl, below_drewN HB0.out _⟩
  · rw [moved_1, Hm.out, Hq.out] at hd'
    by_cases hc : 1 ≤ m
    · rw [if_pos hc] at hd'
      obtain ⟨p, hp, hpl⟩ : ∃ p : Nat, (q : Int) * (W : Int) = (p : Int) ∧ p ≤ 256 := ⟨(q) * W, by first | (rw [Int.natCast_mul]; done) | (rw [Int.natCast_mul, Int.natCast_sub hc]; rfl) | (rw [Int.natCast_mul]; rfl), by have := Nat.mul_le_mul (show q ≤ 16 by omega) hW'; omega⟩
      have hd2 : (p : Int) + ((m : Int) - 1) = (d' : Int) := by rw [← hp, ← hd']; first | (rw [Int.natCast_add, Int.natCast_mul]; done) | (rw [Int.natCast_add, Int.natCast_mul, Int.natCast_sub hc]; rfl) | (rw [Int.natCast_add, Int.natCast_mul]; rfl)
      have b1 : inB ((m : Int) - 1) 0 ((W : Int) - 1) = true := by unfold inB; simp; omega
      have b2 : inB (q : Int) 0 ((H : Int) - 1) = true := by unfold inB; simp; omega
      have B1 := Lib.hid b1
      have B2 := Lib.hid b2
      have E2 := Lib.hid hd2
      clear b1 b2 hd' hd2
      go_enter Try.func56, Try.ntmps56
      go_wp2
      go_quiet (fail)
      go_wp2_with fail
      refine (within_any _ _ _ _).mono ?_
      rintro e w5 ⟨rfl, h5⟩
      obtain rfl := h5.symm
      rw [B1.out]
      go_wp2_with fail
      refine (within_any _ _ _ _).mono ?_
      rintro e w5 ⟨rfl, h5⟩
      obtain rfl := h5.symm
      rw [B2.out]
      go_wp2
      go_ret
      exact ⟨ret_int E2.out, below_drewN HB0.out _⟩
    · rw [if_neg hc] at hd'
      subst hd'
      have b1 : inB ((m : Int) - 1) 0 ((W : Int) - 1) = false := by unfold inB; simp; omega
      have B1 := Lib.hid b1
      clear b1
      go_enter Try.func56, Try.ntmps56
      go_wp2
      go_quiet (fail)
      go_wp2_with fail
      refine (within_any _ _ _ _).mono ?_
      rintro e w5 ⟨rfl, h5⟩
      obtain rfl := h5.symm
      rw [B1.out]
      go_wp2
      go_ret
      exact ⟨rfl, below_drewN HB0.out _⟩
  · rw [moved_2, Hm.out, Hq.out] at hd'
    by_cases hc : m + 1 < W
    · rw [if_pos hc] at hd'
      obtain ⟨p, hp, hpl⟩ : ∃ p : Nat, (q : Int) * (W : Int) = (p : Int) ∧ p ≤ 256 := ⟨(q) * W, by first | (rw [Int.natCast_mul]; done) | (rw [Int.natCast_mul, Int.natCast_sub hc]; rfl) | (rw [Int.natCast_mul]; rfl), by have := Nat.mul_le_mul (show q ≤ 16 by omega) hW'; omega⟩
      have hd2 : (p : Int) + ((m : Int) + 1) = (d' : Int) := by rw [← hp, ← hd']; first | (rw [Int.natCast_add, Int.natCast_mul]; done) | (rw [Int.natCast_add, Int.natCast_mul, Int.natCast_sub hc]; rfl) | (rw [Int.natCast_add, Int.natCast_mul]; rfl)
      have b1 : inB ((m : Int) + 1) 0 ((W : Int) - 1) = true := by unfold inB; simp; omega
      have b2 : inB (q : Int) 0 ((H : Int) - 1) = true := by unfold inB; simp; omega
      have B1 := Lib.hid b1
      have B2 := Lib.hid b2
      have E2 := Lib.hid hd2
      clear b1 b2 hd' hd2
      go_enter Try.func56, Try.ntmps56
      go_wp2
      go_quiet (fail)
      go_wp2_with fail
      refine (within_any _ _ _ _).mono ?_
      rintro e w5 ⟨rfl, h5⟩
      obtain rfl := h5.symm
      rw [B1.out]
      go_wp2_with fail
      refine (within_any _ _ _ _).mono ?_
      rintro e w5 ⟨rfl, h5⟩
      obtain rfl := h5.symm
      rw [B2.out]
      go_wp2
      go_ret
      exact ⟨ret_int E2.out, below_drewN HB0.out _⟩
    · rw [if_neg hc] at hd'
      subst hd'
      have b1 : inB ((m : Int) + 1) 0 ((W : Int) - 1) = false := by unfold inB; simp; omega
      have B1 := Lib.hid b1
      clear b1
      go_enter Try.func56, Try.ntmps56
      go_wp2
      go_quiet (fail)
      go_wp2_with fail
      refine (within_any _ _ _ _).mono ?_
      rintro e w5 ⟨rfl, h5⟩
      obtain rfl := h5.symm
      rw [B1.out]
      go_wp2
      go_ret
      exact ⟨rfl, below_drewN HB0.out _⟩
  · rw [moved_3 _ _ _ _ (by omega), Hm.out, Hq.out] at hd'
    by_cases hc : q + 1 < H
    · rw [if_pos hc] at hd'
      obtain ⟨p, hp, hpl⟩ : ∃ p : Nat, ((q : Int) + 1) * (W : Int) = (p : Int) ∧ p ≤ 256 := ⟨(q + 1) * W, by first | (rw [Int.natCast_mul]; done) | (rw [Int.natCast_mul, Int.natCast_sub hc]; rfl) | (rw [Int.natCast_mul]; rfl), by have := Nat.mul_le_mul (show q + 1 ≤ 16 by omega) hW'; omega⟩
      have hd2 : (p : Int) + (m : Int) = (d' : Int) := by rw [← hp, ← hd']; first | (rw [Int.natCast_add, Int.natCast_mul]; done) | (rw [Int.natCast_add, Int.natCast_mul, Int.natCast_sub hc]; rfl) | (rw [Int.natCast_add, Int.natCast_mul]; rfl)
      have b1 : inB (m : Int) 0 ((W : Int) - 1) = true := by unfold inB; simp; omega
      have b2 : inB ((q : Int) + 1) 0 ((H : Int) - 1) = true := by unfold inB; simp; omega
      have B1 := Lib.hid b1
      have B2 := Lib.hid b2
      have E2 := Lib.hid hd2
      clear b1 b2 hd' hd2
      go_enter Try.func56, Try.ntmps56
      go_wp2
      go_quiet (fail)
      go_wp2_with fail
      refine (within_any _ _ _ _).mono ?_
      rintro e w5 ⟨rfl, h5⟩
      obtain rfl := h5.symm
      rw [B1.out]
      go_wp2_with fail
      refine (within_any _ _ _ _).mono ?_
      rintro e w5 ⟨rfl, h5⟩
      obtain rfl := h5.symm
      rw [B2.out]
      go_wp2
      go_ret
      exact ⟨ret_int E2.out, below_drewN HB0.out _⟩
    · rw [if_neg hc] at hd'
      subst hd'
      have b1 : inB (m : Int) 0 ((W : Int) - 1) = true := by unfold inB; simp; omega
      have b2 : inB ((q : Int) + 1) 0 ((H : Int) - 1) = false := by unfold inB; simp; omega
      have B1 := Lib.hid b1
      have B2 := Lib.hid b2
      clear b1 b2
      go_enter Try.func56, Try.ntmps56
      go_wp2
      go_quiet (fail)
      go_wp2_with fail
      refine (within_any _ _ _ _).mono ?_
      rintro e w5 ⟨rfl, h5⟩
      obtain rfl := h5.symm
      rw [B1.out]
      go_wp2_with fail
      refine (within_any _ _ _ _).mono ?_
      rintro e w5 ⟨rfl, h5⟩
      obtain rfl := h5.symm
      rw [B2.out]
      go_wp2
      go_ret
      exact ⟨rfl, below_drewN HB0.out _⟩
end Go.Proofs.Ytknonmfffcjonaa

/- Walk: the law on cells that are invaded. Conditions: at most 2^63 bytes. -/
import Derived.Test.YtbkacmklgkgamaaWc
import Derived.Test.YtbkacmklgkgamaaVx
import Derived.Test.YtbkacmklgkgamaaSt
namespace Go.Proofs.Ytbkacmklgkgamaa
open Go.RowKit

set_option maxRecDepth 100000 in
set_option maxHeartbeats 1000000 in
theorem b10At_gen (A : Option Addr) (n c i k : Nat) (bs : List Nat) (hl : bs.length = n) (hn : n ≤ 1048576) (hi : i ≤ 1000) (hk : 1 ≤ k) (hk2 : k ≤ 256) (hb : ∀ x ∈ bs, x < 256) : ∃ y : Nat, y < k ∧ ∀ (B : Nat) (w : World), Rd w B 1 A n (bs.map u8v) →
    Calls Try.prog 16 #[.slice A n c, .int .i64 (i : Int), .int .i64 (k : Int)] w fun e w' => e = .returned (.int .i64 (y : Int)) ∧ w' = w := by
  by_cases h : k = 1
  · subst h
    refine ⟨0, by omega, fun B w hA => ?_⟩
    clear hA hb hl
    go_enter Try.func16, Try.ntmps16
    go_wp2
    go_ret
    exact ⟨rfl, rfl⟩
  · exact b10At_val A n c i k bs hl hn hi (by omega) hk2 hb
/-- Cell a is at a side of cell i, as the law tells it. -/
theorem tch_iff {W H N a i : Nat} (hW : 1 ≤ W) (hP : W * H = N) (ha : a < N) (hi : i < N) (h : a ∈ nbs W H i) : a = i + W ∨ a + W = i ∨ (a = i + 1 ∧ ¬ a % W = 0) ∨ (a + 1 = i ∧ ¬ i % W = 0) := by
  unfold nbs at h
  simp only [List.mem_append] at h
  rcases h with ((h | h) | h) | h
  · unfold nb1 at h
    split at h
    · simp at h; omega
    · simp at h
  · unfold nb2 at h
    split at h
    · simp at h
      have := Nat.mod_le i W
      omega
    · simp at h
  · unfold nb3 at h
    split at h
    · rename_i h1
      simp at h
      have := mod_succ h1
      subst h
      exact .inr (.inr (.inl ⟨rfl, by omega⟩))
    · simp at h
  · unfold nb4 at h
    split at h
    · simp at h; omega
    · simp at h
theorem own_cellN {w : World} {base g n c : Nat} {e : TypeId} {ord : List Nat} (h : w.ownsRow base e 1 (.slice (some ⟨g, 0, none⟩) n c) n (ord.map nv)) {i v : Nat} (hi : ord[i]? = some v) : w.cell? ⟨g, i, none⟩ = some (.int .i64 (v : Int)) := by
  have hl : ord.length = n := by have := h.1; simpa using this
  have hlt := (List.getElem?_eq_some_iff.1 hi).1
  rw [h.cellAt _ (by simp; omega), List.getElem?_map, hi]; rfl
theorem own_cellX {w : World} {base g n c : Nat} {e : TypeId} {xs : List Nat} (h : w.ownsRow base e 1 (.slice (some ⟨g, 0, none⟩) n c) n (xs.map fv)) {i : Nat} (hi : i < n) : w.cell? ⟨g, i, none⟩ = some (.float .f32 (xs.getD i 0)) := by
  have hl : xs.length = n := by have := h.1; simpa using this
  rw [h.cellAt _ (by simp; omega), List.getElem?_map, get_getD (by omega)]; rfl
/-- Whether a cell that has come is beside, as far as has been looked. -/
def BES (W H k i : Nat) (ins : List Bool) (j : Nat) (bb : Bool) : Prop := (k = 0 → bb = true) ∧ ∀ a < j, a ∈ nbs W H i → ins.getD a false = true → bb = true
theorem BES.yes (W H k i : Nat) (ins : List Bool) (j : Nat) : BES W H k i ins j true := ⟨fun _ => rfl, fun _ _ _ _ => rfl⟩
theorem BES.no {W H k i j : Nat} {ins : List Bool} {bb : Bool} (h : BES W H k i ins j bb) (hn : ¬ (j ∈ nbs W H i ∧ ins.getD j false = true)) : BES W H k i ins (j + 1) bb := ⟨h.1, fun a ha h1 h2 => by
  rcases Nat.eq_or_lt_of_le (Nat.lt_succ_iff.1 ha) with e | e
  · subst e; exact absurd ⟨h1, h2⟩ hn
  · exact h.2 a e h1 h2⟩
/-- Marks of what has come. -/
def Marked (N k : Nat) (ord : List Nat) (ins : List Bool) : Prop := ins.length = N ∧ ∀ j < N, (ins.getD j false = true ↔ j ∈ ord.take k)
theorem Marked.zero (N : Nat) (ord : List Nat) : Marked N 0 ord (List.replicate N false) := by
  refine ⟨by simp, fun j hj => ?_⟩
  rw [List.getD_eq_getElem?_getD, List.getElem?_replicate, if_pos hj]
  simp
theorem Marked.step {N k i : Nat} {ord : List Nat} {ins : List Bool} (h : Marked N k ord ins) (hi : ord[k]? = some i) (hiN : i < N) : Marked N (k + 1) ord (ins.set i true) := by
  refine ⟨by rw [List.length_set]; exact h.1, fun j hj => ?_⟩
  rw [setB_getD _ _ _ (by rw [h.1]; exact hiN), List.take_add_one, hi, List.mem_append]
  by_cases c : j = i
  · simp [c]
  · rw [if_neg c, h.2 j hj]
    simp [c]
set_option maxRecDepth 100000 in
set_option maxHeartbeats 400000 in
theorem lawIn_long (A1 A2 : Option Addr) (n1 c1 n2 c2 : Nat) (w : World) (hn1 : n1 ≤ maxLen) (hn2 : n2 ≤ maxLen) (hbig : ¬ (n1 ≤ 1048576 ∧ n2 ≤ 1048576)) :
    Calls Try.prog 4 #[.slice A1 n1 c1, .slice A2 n2 c2] w fun e w' => e = .returned (.bool true) ∧ Below w.heap.size w w' := by
  have e : (decide (1048576 < n1) || decide (1048576 < n2)) = true := by
    by_cases h : n1 ≤ 1048576
    · have : 1048576 < n2 := by omega
      simp [this]
    · have : 1048576 < n1 := by omega
      simp [this]
  have LC := b10Long_any A1 A2 n1 c1 n2 c2 w hn1 hn2
  rw [e] at LC
  have LCH := Lib.hid LC
  clear LC e
  go_enter Try.func4, Try.ntmps4
  go_wp2_with fail
  refine LCH.out.mono ?_
  rintro e w1 ⟨rfl, rfl⟩
  go_wp2
  go_ret
  exact ⟨rfl, Below.refl _ _⟩
set_option maxRecDepth 100000 in
set_option maxHeartbeats 16000000 in
theorem lawIn_any (A1 A2 : Option Addr) (n1 c1 n2 c2 : Nat) (bs bs2 : List Nat) (w : World) (hn1 : n1 ≤ 1048576) (hn2 : n2 ≤ 1048576) (hc1 : n1 ≤ c1) (hbs : ∀ x ∈ bs, x < 256) (hbs2 : ∀ x ∈ bs2, x < 256)
    (hA : Rd w w.heap.size 1 A1 n1 (bs.map u8v)) (hA2 : Rd w w.heap.size 1 A2 n2 (bs2.map u8v)) :
    Calls Try.prog 4 #[.slice A1 n1 c1, .slice A2 n2 c2] w fun e w' => e = .returned (.bool true) ∧ Below w.heap.size w w' := by
  have LC := b10Long_any A1 A2 n1 c1 n2 c2 w (by unfold maxLen; omega) (by unfold maxLen; omega)
  rw [show (decide (1048576 < n1) || decide (1048576 < n2)) = false by simp; omega] at LC
  have LCH := Lib.hid LC
  have hl2 : bs2.length = n2 := by have := hA2.len; simpa using this
  obtain ⟨W0, hW0, BA⟩ := b10At_val A2 n2 c2 0 5 bs2 hl2 hn2 (by omega) (by omega) (by omega) hbs2
  obtain ⟨H0, hH0, BB⟩ := b10At_val A2 n2 c2 1 5 bs2 hl2 hn2 (by omega) (by omega) (by omega) hbs2
  obtain ⟨W, eW⟩ : ∃ W, 1 + W0 = W := ⟨_, rfl⟩
  obtain ⟨H, eH⟩ : ∃ H, 1 + H0 = H := ⟨_, rfl⟩
  obtain ⟨N, eN⟩ : ∃ N, W * H = N := ⟨_, rfl⟩
  have zW : (1 : Int) + (W0 : Int) = (W : Int) := by omega
  have zH : (1 : Int) + (H0 : Int) = (H : Int) := by omega
  have zN : (W : Int) * (H : Int) = (N : Int) := by rw [← eN]; simp
  have h1 : 1 ≤ W := by omega
  have h2 : W ≤ 16 := by omega
  have h3 : 1 ≤ H := by omega
  have h4 : H ≤ 16 := by omega
  have hN1 : 1 ≤ N := by rw [← eN]; exact Nat.mul_pos h1 h3
  have hN25 : N ≤ 25 := by rw [← eN]; exact Nat.mul_le_mul (show W ≤ 5 by omega) (show H ≤ 5 by omega)
  have hWN : W ≤ N := by rw [← eN]; exact Nat.le_mul_of_pos_right W h3
  obtain ⟨at_, hat, BC⟩ := b10At_gen A2 n2 c2 2 N bs2 hl2 hn2 (by omega) hN1 (by omega) hbs2
  obtain ⟨ct0, hct0, BD⟩ := b10At_gen A2 n2 c2 3 N bs2 hl2 hn2 (by omega) hN1 (by omega) hbs2
  obtain ⟨count, ect⟩ : ∃ count, 1 + ct0 = count := ⟨_, rfl⟩
  have zct : (1 : Int) + (ct0 : Int) = (count : Int) := by omega
  have hct1 : 1 ≤ count := by omega
  have hctN : count ≤ N := by omega
  have BAH := Lib.hid BA
  have BBH := Lib.hid BB
  have BCH := Lib.hid BC
  have BDH := Lib.hid BD
  have EN := Lib.hid eN
  have HBS := Lib.hid hbs
  have S0 : Hid (Held [.low w, .rd w.heap.size 1 A2 n2 (bs2.map u8v), .rd w.heap.size 1 A1 n1 (bs.map u8v)] w) := Held.put (Held.put (Held.put (Held.nil _) (Held.of_rd hA)) (Held.of_rd hA2)) ⟨Nat.le_refl _, Below.refl _ _⟩
  clear LC BA BB BC BD hbs hbs2 hl2 hA hA2 eW eH ect eN
  go_enter Try.func4, Try.ntmps4
  go_wp2_with fail
  refine LCH.out.mono ?_
  rintro e w0 ⟨rfl, hw0⟩
  obtain rfl := hw0.symm
  go_wp2_with fail
  refine (BAH.out _ _ (S0.out.rd 1 rfl)).mono ?_
  rintro e w5 ⟨rfl, h5⟩
  obtain rfl := h5.symm
  go_wp2_with fail
  refine (BBH.out _ _ (S0.out.rd 1 rfl)).mono ?_
  rintro e w5 ⟨rfl, h5⟩
  obtain rfl := h5.symm
  go_wp2_with fail
  refine (B10Weights_any n1 c1 N A1 bs _ hn1 hc1 (by omega) HBS.out (S0.out.rd 2 rfl)).mono ?_
  rintro e w1 ⟨xs, Ax, cx, rfl, hxl, hxf, ho, hb⟩
  have S1 := Lib.hid ((S0.out.below hb).add (f := .own w.heap.size 50 1 (.slice Ax N cx) N (xs.map fv)) ho)
  have HXL := Lib.hid hxl
  have HXF := Lib.hid hxf
  have HAW : Hid (areW W H N xs = true) := by
    unfold Hid areW
    rw [hxf, Bool.and_true]
    unfold validB
    simp only [decide_eq_true_eq]
    omega
  clear ho hb hxl hxf S0
  go_wp2_with fail
  refine (BCH.out _ _ (S1.out.rd 1 rfl)).mono ?_
  rintro e w5 ⟨rfl, h5⟩
  obtain rfl := h5.symm
  go_wp2_with fail
  refine (BDH.out _ _ (S1.out.rd 1 rfl)).mono ?_
  rintro e w5 ⟨rfl, h5⟩
  obtain rfl := h5.symm
  go_wp2_with fail
  refine (invade_ok W H N at_ count Ax cx xs _ h1 h2 h3 h4 HXL.out EN.out HAW.out hat hct1 hctN (Rd.own (S1.out.own 3 rfl))).mono ?_
  rintro e w2 ⟨ord, cs, Ao, co, rfl, hI, ho, hb⟩
  have S2 := Lib.hid ((S1.out.below hb).add (f := .own w1.heap.size 2 1 (.slice Ao count co) count (ord.map nv)) ho)
  have HI := Lib.hid hI
  obtain ⟨bo, hbo⟩ := best_ex xs (fun v => SBp (cutB xs v) W N (nbs W H)) N
  obtain ⟨j0, hj0⟩ : ∃ j0, BestTo xs (fun v => SBp (cutB xs v) W N (nbs W H)) N (some j0) := by
    have hex := some_spans (xs := xs) h1 h3 (HXL.out.trans EN.out.symm)
    rw [EN.out, HXL.out] at hex
    cases bo with
    | none =>
      exfalso
      obtain ⟨k, hk, hp⟩ := hex
      exact hbo k hk hp
    | some j => exact ⟨j, hbo⟩
  have HB0 := Lib.hid hj0
  clear ho hb hI S1 hbo hj0 BAH BBH BCH BDH LCH
  go_wp2_with fail
  refine (implThr_ok W H N j0 Ax cx xs _ h1 h2 h3 h4 HXL.out EN.out HAW.out (Rd.own (S2.out.own 3 rfl)) HB0.out).mono ?_
  rintro e w3 ⟨rfl, hb⟩
  have S3 := Lib.hid (S2.out.below hb)
  obtain ⟨y, hy⟩ : ∃ y, xs.getD j0 0 = y := ⟨_, rfl⟩
  have HY := Lib.hid hy
  rw [hy]
  clear hb S2 hy
  have Oo := Lib.hid (S3.out.own 4 rfl)
  have Ox := Lib.hid (S3.out.own 3 rfl)
  obtain ⟨go, co', hvo, _, hgo⟩ := Oo.out.form (by omega)
  obtain ⟨rfl, rfl⟩ : Ao = some ⟨go, 0, none⟩ ∧ co = co' := by injection hvo with q1 _ q3; exact ⟨q1, q3⟩
  obtain ⟨gx, cx', hvx, _, hgx⟩ := Ox.out.form (by omega)
  obtain ⟨rfl, rfl⟩ : Ax = some ⟨gx, 0, none⟩ ∧ cx = cx' := by injection hvx with q1 _ q3; exact ⟨q1, q3⟩
  have k0 := own_cellN Oo.out HI.out.head
  have hcti : (0 : Int) < (count : Int) := by omega
  obtain ⟨i0, hi0, hz0, hz1, hz2⟩ := info_parts boolInfo
  have AP := Lib.hid S3.out.apart
  clear hvo hvx
  go_wp2_with (at_make; refine wpList_make_full _ rfl _ _ _ rfl w3.heap.size 4 i0 (.bool false) 1 Try.underlying29 hi0 hz0 hz1 .i64 .i64 N N N rfl rfl rfl rfl (by rw [hz2]; omega) (by unfold maxLen; omega) (Nat.le_refl _) ?_; intro w4 ho4 hg4)
  have O4 : Hid (w4.ownsRow w3.heap.size 4 1 (.slice (some ⟨w3.heap.size, 0, none⟩) N N) N ((List.replicate N false).map bv)) := by
    have := ho4
    rwa [show (madeCells (Value.bool false).cells (N * 1)).toList = (List.replicate N false).map bv from made_rep N] at this
  have S4 := Lib.hid (S3.out.below (below_of_grown hg4 (Nat.le_refl _) (by simp)))
  obtain ⟨gi, egi⟩ : ∃ gi, w3.heap.size = gi := ⟨_, rfl⟩
  rw [egi] at O4 AP ⊢
  have M0 : Hid (Marked N 0 ord (List.replicate N false)) := Marked.zero N ord
  clear ho4 hg4 egi S3 Oo Ox k0
  go_loopw [95] (fun sk wr => ∃ (k : Nat) (ins : List Bool), sk = .int .i64 (k : Int) ∧ k ≤ count ∧ Hid (Marked N k ord ins) ∧ Hid (wr.ownsRow gi 4 1 (.slice (some ⟨gi, 0, none⟩) N N) N (ins.map bv)) ∧ Hid (Held [.low w, .rd w.heap.size 1 A2 n2 (bs2.map u8v), .rd w.heap.size 1 A1 n1 (bs.map u8v), .own w.heap.size 50 1 (.slice (some ⟨gx, 0, none⟩) N cx) N (xs.map fv), .own w1.heap.size 2 1 (.slice (some ⟨go, 0, none⟩) count co) count (ord.map nv)] wr)) (fun sk _ => count - (intOf sk).toNat)
  case atStart => exact ⟨0, _, rfl, Nat.zero_le _, M0, O4, S4⟩
  case round =>
    clear M0 O4 S4
    obtain ⟨k, ins, rfl, hk, HM, O, S⟩ := hrel
    obtain ⟨wo, hwo⟩ : ∃ x, x = wr := ⟨_, rfl⟩
    subst hwo
    by_cases hkc : k < count
    · have hki : (k : Int) < (count : Int) := by omega
      obtain ⟨i, hi⟩ : ∃ i, ord[k]? = some i := ⟨_, List.getElem?_eq_getElem (by rw [HI.out.len]; exact hkc)⟩
      have hiN := HI.out.lt i (List.mem_of_getElem? hi)
      have hnew := HI.out.new_ k i hi
      have ck := own_cellN (S.out.own 4 rfl) hi
      have ci := own_cellB' O.out hiN
      have hfi : ins.getD i false = false := by
        cases hc : ins.getD i false with
        | false => rfl
        | true => exact absurd ((HM.out.2 i hiN).1 hc) hnew
      rw [hfi] at ci
      have hii : (i : Int) < (N : Int) := by omega
      have hi0' : decide ((i : Int) < 0) = false := by simp
      have hge : decide ((N : Int) ≤ (i : Int)) = false := by simp; omega
      have hge2 : decide (N ≤ i) = false := by simp; omega
      obtain ⟨b0, hb0⟩ : ∃ b0, decide (k = 0) = b0 := ⟨_, rfl⟩
      have HBB := Lib.hid hb0
      have hb0' : ((k : Int) == 0) = b0 := by rw [← hb0, Bool.eq_iff_iff]; simp
      have HIG := Lib.hid hi
      clear hi hnew hfi
      go_wp2
      have BS0 : Hid (BES W H k i ins 0 b0) := ⟨fun h => by rw [← HBB.out]; simp [h], fun a ha => absurd ha (by omega)⟩
      have hWi : ¬ (W : Int) = 0 := by omega
      have hWi2 : ¬ W = 0 := by omega
      go_loopw [17, 121] (fun sb sj wr => ∃ (a : Nat) (bb : Bool), sj = .int .i64 (a : Int) ∧ sb = .bool bb ∧ a ≤ N ∧ Hid (BES W H k i ins a bb) ∧ wr = wo) (fun _ sj _ => N - (intOf sj).toNat)
      case atStart => exact ⟨0, b0, rfl, rfl, Nat.zero_le _, BS0, rfl⟩
      case round =>
        clear BS0
        obtain ⟨a, bb, rfl, rfl, ha, HBES, hwr⟩ := hrel
        obtain rfl := hwr
        by_cases haN : a < N
        · have hai : (a : Int) < (N : Int) := by omega
          have ca := own_cellB' O.out haN
          -- <<A
          by_cases q1 : a = i + W
          · have e1 : (i : Int) + (W : Int) = (a : Int) := by omega
            clear q1
            cases bb with
            | true =>
              have NB : Hid (BES W H k i ins (a + 1) true) := BES.yes _ _ _ _ _ _
              clear HBES
              go_wp2
              go_roundw
              case rel => exact ⟨a + 1, true, by go_num, rfl, by omega, NB, by first | trivial | rfl⟩
              case measure => simp [intOf]; omega
            | false =>
              cases hr : ins.getD a false with
              | true =>
                rw [hr] at ca
                have NB : Hid (BES W H k i ins (a + 1) true) := BES.yes _ _ _ _ _ _
                clear HBES hr
                go_wp2
                go_roundw
                case rel => exact ⟨a + 1, true, by go_num, rfl, by omega, NB, by first | trivial | rfl⟩
                case measure => simp [intOf]; omega
              | false =>
                rw [hr] at ca
                have NB : Hid (BES W H k i ins (a + 1) false) := HBES.out.no (fun h => by rw [hr] at h; cases h.2)
                clear HBES hr
                go_wp2
                go_roundw
                case rel => exact ⟨a + 1, false, by go_num, rfl, by omega, NB, by first | trivial | rfl⟩
                case measure => simp [intOf]; omega
          · obtain ⟨d1, hd1⟩ : ∃ d1 : Int, (i : Int) + (W : Int) = d1 := ⟨_, rfl⟩
            have e1 : ((a : Int) == d1) = false := by simp; omega
            by_cases q2 : a + W = i
            · have e2 : (i : Int) - (W : Int) = (a : Int) := by omega
              clear q1 q2
              cases bb with
              | true =>
                have NB : Hid (BES W H k i ins (a + 1) true) := BES.yes _ _ _ _ _ _
                clear HBES
                go_wp2
                go_roundw
                case rel => exact ⟨a + 1, true, by go_num, rfl, by omega, NB, by first | trivial | rfl⟩
                case measure => simp [intOf]; omega
              | false =>
                cases hr : ins.getD a false with
                | true =>
                  rw [hr] at ca
                  have NB : Hid (BES W H k i ins (a + 1) true) := BES.yes _ _ _ _ _ _
                  clear HBES hr
                  go_wp2
                  go_roundw
                  case rel => exact ⟨a + 1, true, by go_num, rfl, by omega, NB, by first | trivial | rfl⟩
                  case measure => simp [intOf]; omega
                | false =>
                  rw [hr] at ca
                  have NB : Hid (BES W H k i ins (a + 1) false) := HBES.out.no (fun h => by rw [hr] at h; cases h.2)
                  clear HBES hr
                  go_wp2
                  go_roundw
                  case rel => exact ⟨a + 1, false, by go_num, rfl, by omega, NB, by first | trivial | rfl⟩
                  case measure => simp [intOf]; omega
            · obtain ⟨d2, hd2⟩ : ∃ d2 : Int, (i : Int) - (W : Int) = d2 := ⟨_, rfl⟩
              have e2 : ((a : Int) == d2) = false := by simp; omega
              by_cases q3 : a = i + 1
              · have e3 : (i : Int) + 1 = (a : Int) := by omega
                obtain ⟨m1, hm1⟩ : ∃ m1, a % W = m1 := ⟨_, rfl⟩
                have zm1 : (a : Int) % (W : Int) = (m1 : Int) := by rw [← hm1]; simp
                by_cases q4 : m1 = 0
                · subst q4
                  obtain ⟨d5, hd5⟩ : ∃ d5 : Int, (i : Int) - 1 = d5 := ⟨_, rfl⟩
                  have e5 : ((a : Int) == d5) = false := by simp; omega
                  have HNT : Hid (¬ a ∈ nbs W H i) := fun h => by
                    have := tch_iff h1 EN.out haN hiN h
                    omega
                  clear q1 q2 q3 hm1
                  cases bb with
                  | true =>
                    have NB : Hid (BES W H k i ins (a + 1) true) := BES.yes _ _ _ _ _ _
                    clear HBES
                    go_wp2
                    go_roundw
                    case rel => exact ⟨a + 1, true, by go_num, rfl, by omega, NB, by first | trivial | rfl⟩
                    case measure => simp [intOf]; omega
                  | false =>
                    have NB : Hid (BES W H k i ins (a + 1) false) := HBES.out.no (fun h => HNT.out h.1)
                    clear HBES
                    go_wp2
                    go_roundw
                    case rel => exact ⟨a + 1, false, by go_num, rfl, by omega, NB, by first | trivial | rfl⟩
                    case measure => simp [intOf]; omega
                · have e4 : ((m1 : Int) == 0) = false := by simp; exact q4
                  have e4' : ((m1 : Int) != 0) = true := by simp; exact q4
                  clear q1 q2 q3 hm1
                  cases bb with
                  | true =>
                    have NB : Hid (BES W H k i ins (a + 1) true) := BES.yes _ _ _ _ _ _
                    clear HBES
                    go_wp2
                    go_roundw
                    case rel => exact ⟨a + 1, true, by go_num, rfl, by omega, NB, by first | trivial | rfl⟩
                    case measure => simp [intOf]; omega
                  | false =>
                    cases hr : ins.getD a false with
                    | true =>
                      rw [hr] at ca
                      have NB : Hid (BES W H k i ins (a + 1) true) := BES.yes _ _ _ _ _ _
                      clear HBES hr
                      go_wp2
                      go_roundw
                      case rel => exact ⟨a + 1, true, by go_num, rfl, by omega, NB, by first | trivial | rfl⟩
                      case measure => simp [intOf]; omega
                    | false =>
                      rw [hr] at ca
                      have NB : Hid (BES W H k i ins (a + 1) false) := HBES.out.no (fun h => by rw [hr] at h; cases h.2)
                      clear HBES hr
                      go_wp2
                      go_roundw
                      case rel => exact ⟨a + 1, false, by go_num, rfl, by omega, NB, by first | trivial | rfl⟩
                      case measure => simp [intOf]; omega
              · obtain ⟨d3, hd3⟩ : ∃ d3 : Int, (i : Int) + 1 = d3 := ⟨_, rfl⟩
                have e3 : ((a : Int) == d3) = false := by simp; omega
                by_cases q4 : a + 1 = i
                · have e5 : (i : Int) - 1 = (a : Int) := by omega
                  obtain ⟨m1, hm1⟩ : ∃ m1, i % W = m1 := ⟨_, rfl⟩
                  have zm1 : (i : Int) % (W : Int) = (m1 : Int) := by rw [← hm1]; simp
                  by_cases q5 : m1 = 0
                  · subst q5
                    have HNT : Hid (¬ a ∈ nbs W H i) := fun h => by
                      have := tch_iff h1 EN.out haN hiN h
                      omega
                    clear q1 q2 q3 q4 hm1
                    cases bb with
                    | true =>
                      have NB : Hid (BES W H k i ins (a + 1) true) := BES.yes _ _ _ _ _ _
                      clear HBES
                      go_wp2
                      go_roundw
                      case rel => exact ⟨a + 1, true, by go_num, rfl, by omega, NB, by first | trivial | rfl⟩
                      case measure => simp [intOf]; omega
                    | false =>
                      have NB : Hid (BES W H k i ins (a + 1) false) := HBES.out.no (fun h => HNT.out h.1)
                      clear HBES
                      go_wp2
                      go_roundw
                      case rel => exact ⟨a + 1, false, by go_num, rfl, by omega, NB, by first | trivial | rfl⟩
                      case measure => simp [intOf]; omega
                  · have e4 : ((m1 : Int) == 0) = false := by simp; exact q5
                    have e4' : ((m1 : Int) != 0) = true := by simp; exact q5
                    clear q1 q2 q3 q4 hm1
                    cases bb with
                    | true =>
                      have NB : Hid (BES W H k i ins (a + 1) true) := BES.yes _ _ _ _ _ _
                      clear HBES
                      go_wp2
                      go_roundw
                      case rel => exact ⟨a + 1, true, by go_num, rfl, by omega, NB, by first | trivial | rfl⟩
                      case measure => simp [intOf]; omega
                    | false =>
                      cases hr : ins.getD a false with
                      | true =>
                        rw [hr] at ca
                        have NB : Hid (BES W H k i ins (a + 1) true) := BES.yes _ _ _ _ _ _
                        clear HBES hr
                        go_wp2
                        go_roundw
                        case rel => exact ⟨a + 1, true, by go_num, rfl, by omega, NB, by first | trivial | rfl⟩
                        case measure => simp [intOf]; omega
                      | false =>
                        rw [hr] at ca
                        have NB : Hid (BES W H k i ins (a + 1) false) := HBES.out.no (fun h => by rw [hr] at h; cases h.2)
                        clear HBES hr
                        go_wp2
                        go_roundw
                        case rel => exact ⟨a + 1, false, by go_num, rfl, by omega, NB, by first | trivial | rfl⟩
                        case measure => simp [intOf]; omega
                · obtain ⟨d5, hd5⟩ : ∃ d5 : Int, (i : Int) - 1 = d5 := ⟨_, rfl⟩
                  have e5 : ((a : Int) == d5) = false := by simp; omega
                  have HNT : Hid (¬ a ∈ nbs W H i) := fun h => by
                    have := tch_iff h1 EN.out haN hiN h
                    omega
                  clear q1 q2 q3 q4
                  cases bb with
                  | true =>
                    have NB : Hid (BES W H k i ins (a + 1) true) := BES.yes _ _ _ _ _ _
                    clear HBES
                    go_wp2
                    go_roundw
                    case rel => exact ⟨a + 1, true, by go_num, rfl, by omega, NB, by first | trivial | rfl⟩
                    case measure => simp [intOf]; omega
                  | false =>
                    have NB : Hid (BES W H k i ins (a + 1) false) := HBES.out.no (fun h => HNT.out h.1)
                    clear HBES
                    go_wp2
                    go_roundw
                    case rel => exact ⟨a + 1, false, by go_num, rfl, by omega, NB, by first | trivial | rfl⟩
                    case measure => simp [intOf]; omega
          -- >>A
        · obtain rfl : N = a := by omega
          have hbt : bb = true := by
            rcases Nat.eq_zero_or_pos k with e | e
            · exact HBES.out.1 e
            · obtain ⟨p, j, hp, hpj, hj⟩ := HI.out.side k i e HIG.out
              have hjN := HI.out.lt j (List.mem_of_getElem? hpj)
              refine HBES.out.2 j hjN hj ((HM.out.2 j hjN).2 ?_)
              exact List.mem_of_getElem? (by rw [List.getElem?_take_of_lt hp]; exact hpj)
          subst hbt
          have fi : wr.frozen? ⟨gi, i, none⟩ = false := O.out.frozenAt _
          have NM : Hid (Marked N (k + 1) ord (ins.set i true)) := HM.out.step HIG.out hiN
          have NO : Hid ((wr.setCell ⟨gi, i, none⟩ (.bool true)).ownsRow gi 4 1 (.slice (some ⟨gi, 0, none⟩) N N) N ((ins.set i true).map bv)) := by
            rw [List.map_set]
            exact (O.out.stored i (.bool true)).1
          have NS : Hid (Held [.low w, .rd w.heap.size 1 A2 n2 (bs2.map u8v), .rd w.heap.size 1 A1 n1 (bs.map u8v), .own w.heap.size 50 1 (.slice (some ⟨gx, 0, none⟩) N cx) N (xs.map fv), .own w1.heap.size 2 1 (.slice (some ⟨go, 0, none⟩) count co) count (ord.map nv)] (wr.setCell ⟨gi, i, none⟩ (.bool true))) := S.out.grown (O.out.stored i (.bool true)).2 AP.out
          clear HBES HM O S
          go_wp2
          go_roundw
          case rel => exact ⟨k + 1, ins.set i true, by go_num, by omega, NM, NO, NS⟩
          case measure => simp [intOf]; omega
    · obtain rfl : count = k := by omega
      have V := Lib.hid (S.out.low 0 rfl)
      have Ox := Lib.hid (S.out.own 3 rfl)
      clear HM O AP
      obtain ⟨v, ev⟩ : ∃ v, fval y = v := ⟨_, rfl⟩
      have HEV := Lib.hid ev
      have hj0N : j0 < N := HB0.out.1
      have hfy : finW y = true := by rw [← HY.out]; exact fin_at HXF.out (by rw [HXL.out]; exact hj0N)
      have HFY := Lib.hid hfy
      clear ev hfy
      have hszo := V.out.1
      go_wp2_with (first
        | (refine wpList_store_blk rfl _ _ _ rfl wo.heap.size 0 rfl _ rfl [.int .i64 (W : Int), .int .i64 (H : Int), .slice none 0 0] rfl 31 #[.int .i64 0, .int .i64 0, .slice none 0 0] #[.int .i64 (W : Int), .int .i64 (H : Int), .slice none 0 0] (Blk.new _ _ _) (by kernel_rfl) (by simp) (by simp [Value.oneCell']) rfl ?_; intro w5 X5 g5)
        | (refine wpList_store_blk rfl _ _ _ rfl w5.heap.size 0 rfl _ rfl [.int .i64 (W : Int), .int .i64 (H : Int), .slice none 0 0] rfl 31 #[.int .i64 0, .int .i64 0, .slice none 0 0] #[.int .i64 (W : Int), .int .i64 (H : Int), .slice none 0 0] (Blk.new _ _ _) (by kernel_rfl) (by simp) (by simp [Value.oneCell']) rfl ?_; intro w6 X6 g6)
        | fail)
      have hlt5 := X5.lt
      have XF := Lib.hid (blk_boxed X5 g6)
      have XL := Lib.hid X6
      have S6 := Lib.hid ((S.out.boxed g5).boxed g6)
      obtain ⟨gF, egF⟩ : ∃ gF, wo.heap.size = gF := ⟨_, rfl⟩
      obtain ⟨gL, egL⟩ : ∃ gL, w5.heap.size = gL := ⟨_, rfl⟩
      have hFL : gF < gL := by rw [← egF, ← egL]; exact hlt5
      have APF := Lib.hid S.out.before
      have APL := Lib.hid (S.out.boxed g5).before
      have hwF : w.heap.size ≤ gF := by rw [← egF]; exact hszo
      rw [egF] at XF APF ⊢
      rw [egL] at XL APL ⊢
      clear X5 g5 X6 g6 egF egL S V Ox hlt5 hszo
      go_loopw [23, 186] (fun ss sk wr => ∃ (k : Nat) (sb : Bool) (Af Al : Option Addr) (cf cl : Nat), sk = .int .i64 (k : Int) ∧ ss = .bool sb ∧ k ≤ N ∧ Hid (∀ m < k, fval (xs.getD m 0) = v → sb = true) ∧
          Hid (Blk wr gF 31 #[.int .i64 (W : Int), .int .i64 (H : Int), .slice Af k cf]) ∧ Hid (Blk wr gL 31 #[.int .i64 (W : Int), .int .i64 (H : Int), .slice Al k cl]) ∧
          Hid (wr.ownsRow gF 4 1 (.slice Af k cf) k ((cutB (xs.take k) v).map bv)) ∧ Hid (wr.ownsRow gF 4 1 (.slice Al k cl) k ((lessB (xs.take k) v).map bv)) ∧ Hid (Dis (.slice Af k cf) (.slice Al k cl)) ∧ Hid (Held [.low w, .rd w.heap.size 1 A2 n2 (bs2.map u8v), .rd w.heap.size 1 A1 n1 (bs.map u8v), .own w.heap.size 50 1 (.slice (some ⟨gx, 0, none⟩) N cx) N (xs.map fv), .own w1.heap.size 2 1 (.slice (some ⟨go, 0, none⟩) count co) count (ord.map nv)] wr)) (fun _ sk _ => N - (intOf sk).toNat)
      case atStart => exact ⟨0, false, none, none, 0, 0, rfl, rfl, Nat.zero_le _, fun m hm => absurd hm (by omega), XF, XL, World.ownsRow_nil _ _ _ _, World.ownsRow_nil _ _ _ _, Dis.nil _, S6⟩
      case round =>
        clear XF XL S6
        obtain ⟨k, sb, Af, Al, cf, cl, rfl, rfl, hk, HSB, XF, XL, OF, OL, HD, S⟩ := hrel
        obtain ⟨wi, hwi⟩ : ∃ x, x = wr := ⟨_, rfl⟩
        subst hwi
        by_cases hkN : k < N
        · -- <<B
          have hki : (k : Int) < (N : Int) := by omega
          have hkL : k < xs.length := by rw [HXL.out]; exact hkN
          have ck := own_cellX (S.out.own 3 rfl) hkN
          obtain ⟨x, hx⟩ : ∃ x, xs.getD k 0 = x := ⟨_, rfl⟩
          have hfx : finW x = true := by rw [← hx]; exact fin_at HXF.out hkL
          rw [hx] at ck
          have hle := ord_le hfx HFY.out
          have hlt := ord_lt hfx HFY.out
          have heq := ord_eq hfx HFY.out
          rw [HEV.out] at hle hlt heq
          have hn1 := cutB_take xs v k (get_getD hkL)
          have hn2 := lessB_take xs v k (get_getD hkL)
          rw [hx] at hn1 hn2
          have HX := Lib.hid hx
          obtain ⟨q1, hq1⟩ : ∃ q, decide (fval x ≤ v) = q := ⟨_, rfl⟩
          obtain ⟨q2, hq2⟩ : ∃ q, decide (fval x < v) = q := ⟨_, rfl⟩
          obtain ⟨q3, hq3⟩ : ∃ q, decide (fval x = v) = q := ⟨_, rfl⟩
          have HQ3 := Lib.hid hq3
          rw [hq1] at hle hn1
          rw [hq2] at hlt hn2
          rw [hq3] at heq
          have N1 := Lib.hid hn1
          have N2 := Lib.hid hn2
          have HLT := Lib.hid hlt
          have HEQ := Lib.hid heq
          clear hq1 hq2 hq3 hn1 hn2 hx hfx hlt heq
          have hgFw : gF < wi.drew.heap.size := XF.out.lt
          have hgLw : gL < wi.drew.heap.size := XL.out.lt
          have d2 : wi.cell? ⟨gF, 2, none⟩ = some (.slice Af k cf) := XF.out.cell 2
          have X8 := Lib.hid (XF.out.drew.alloc (.cells #[.bool q1] 4))
          have Y8 := Lib.hid (XL.out.drew.alloc (.cells #[.bool q1] 4))
          have O8 : Hid ((wi.drew.alloc (.cells #[.bool q1] 4)).ownsRow gF 4 1 (.slice Af k cf) k ((cutB (xs.take k) v).map bv)) := own_alloc' OF.out _
          have P8 : Hid ((wi.drew.alloc (.cells #[.bool q1] 4)).ownsRow gF 4 1 (.slice Al k cl) k ((lessB (xs.take k) v).map bv)) := own_alloc' OL.out _
          have C8 : Hid (∀ j u, ([.bool q1] : List Value)[j]? = some u → (wi.drew.alloc (.cells #[.bool q1] 4)).cell? ((⟨wi.drew.heap.size, 0, none⟩ : Addr).add j) = some u) := World.news_of_block (heap_alloc_new wi.drew (.cells #[.bool q1] 4))
          have S8 : Hid (Held [.low w, .rd w.heap.size 1 A2 n2 (bs2.map u8v), .rd w.heap.size 1 A1 n1 (bs.map u8v), .own w.heap.size 50 1 (.slice (some ⟨gx, 0, none⟩) N cx) N (xs.map fv), .own w1.heap.size 2 1 (.slice (some ⟨go, 0, none⟩) count co) count (ord.map nv)] (wi.drew.alloc (.cells #[.bool q1] 4))) := S.out.drew.below ((Below.refl _ _).alloc (Nat.le_refl _) _)
          have OLD : Hid (Old wi.heap.size (.slice Al k cl)) := Old.own OL.out
          have hne7 : ¬ gF = wi.heap.size := by have : gF < wi.heap.size := hgFw; omega
          have d2a : (wi.alloc (.cells #[.bool q1] 4)).cell? ⟨gF, 2, none⟩ = some (.slice Af k cf) := X8.out.cell 2
          have hgF8 : gF ≤ (wi.drew.alloc (.cells #[.bool q1] 4)).heap.size := by simp; have : gF < wi.heap.size := hgFw; omega
          clear OF OL XF XL
          go_wp2
          go_region_law (first
            | (refine step_append_lies _ rfl _ _ _ rfl gF 4 i0 (.bool false) 1 1 Try.underlying29 hi0 hz0 hz1 hz2 rfl (by omega) (.slice Af k cf) k ((cutB (xs.take k) v).map bv) (by rfl) O8.out ⟨wi.drew.heap.size, 0, none⟩ 1 1 [.bool q1] (by rfl) (by simp) C8.out (by simp [Value.oneCell']) (by omega) (by unfold maxLen; omega) (by omega) hgF8 (wi.drew.heap.size + 1) (by simp) ?_
               intro gg cap w9 ho9 hg9 hd9 hlt9
               have X9 := Lib.hid (X8.out.grown hg9 (own_blk_ne O8.out X8.out (by decide)))
               have e9 := X9.out.cell 2
               have f9 := X9.out.frozen 2))
          all_goals
            have gs10 := Lib.hid (grown_set (World.grownBy.refl w9 (some gF)) (p := ⟨gF, 2, none⟩) rfl (.slice (some ⟨gg, 0, none⟩) (k + 1) cap))
            have X10 : Hid (Blk (w9.setCell ⟨gF, 2, none⟩ (.slice (some ⟨gg, 0, none⟩) (k + 1) cap)) gF 31 #[.int .i64 (W : Int), .int .i64 (H : Int), .slice (some ⟨gg, 0, none⟩) (k + 1) cap]) := X9.out.set_ 2 _
            have O10 := own_grown' ho9 gs10.out (own_blk_ne ho9 X9.out (by decide))
            have hmap : (cutB (xs.take k) v).map bv ++ [.bool q1] = (cutB (xs.take (k + 1)) v).map bv := by rw [N1.out, List.map_append]; rfl
            rw [hmap] at O10
            have P9 := own_kept P8.out hg9 HD.out.symm
            have P10 := Lib.hid (own_grown' P9 gs10.out (own_blk_ne P9 X9.out (by decide)))
            have D10 : Hid (Dis (.slice (some ⟨gg, 0, none⟩) (k + 1) cap) (.slice Al k cl)) := fun g' hg' hv' => by
              rcases hd9 with e | e
              · exact HD.out g' (by rw [e, ← hg']; rfl) hv'
              · have e1 : gg = g' := by simpa [Value.ownBlock] using hg'
                have e2 := OLD.out g' hv'
                have e3 : wi.drew.heap.size + 1 = wi.heap.size + 1 := rfl
                omega
            have Y9 := Lib.hid (Y8.out.grown hg9 (own_blk_ne O8.out Y8.out (by decide)))
            have Y10 := Lib.hid (Y9.out.grown gs10.out (fun e => by injection e with e; omega))
            have S9 : Hid (Held [.low w, .rd w.heap.size 1 A2 n2 (bs2.map u8v), .rd w.heap.size 1 A1 n1 (bs.map u8v), .own w.heap.size 50 1 (.slice (some ⟨gx, 0, none⟩) N cx) N (xs.map fv), .own w1.heap.size 2 1 (.slice (some ⟨go, 0, none⟩) count co) count (ord.map nv)] w9) := held_row S8.out hg9 (fun j e => (O8.out.lt j e).1) APF.out
            have S10 := Lib.hid (S9.out.grown gs10.out (fun f hf => (APF.out f hf).apart (Nat.le_refl _)))
            have O10' := Lib.hid O10
            clear ho9 hg9 hd9 e9 f9 X9 gs10 hmap O10 Y9 S9 P9
            generalize w9.setCell ⟨gF, 2, none⟩ (.slice (some ⟨gg, 0, none⟩) (k + 1) cap) = w10 at *
            have hlt := HLT.out
            have ck := own_cellX (S10.out.own 3 rfl) hkN
            rw [HX.out] at ck
            have hgFw : gF < w10.drew.heap.size := X10.out.lt
            have hgLw : gL < w10.drew.heap.size := Y10.out.lt
            have d2 : w10.cell? ⟨gL, 2, none⟩ = some (.slice Al k cl) := Y10.out.cell 2
            have X11 := Lib.hid (X10.out.drew.alloc (.cells #[.bool q2] 4))
            have Y11 := Lib.hid (Y10.out.drew.alloc (.cells #[.bool q2] 4))
            have O11 : Hid ((w10.drew.alloc (.cells #[.bool q2] 4)).ownsRow gF 4 1 (.slice (some ⟨gg, 0, none⟩) (k + 1) cap) (k + 1) ((cutB (xs.take (k + 1)) v).map bv)) := own_alloc' O10'.out _
            have P11 : Hid ((w10.drew.alloc (.cells #[.bool q2] 4)).ownsRow gF 4 1 (.slice Al k cl) k ((lessB (xs.take k) v).map bv)) := own_alloc' P10.out _
            have C11 : Hid (∀ j u, ([.bool q2] : List Value)[j]? = some u → (w10.drew.alloc (.cells #[.bool q2] 4)).cell? ((⟨w10.drew.heap.size, 0, none⟩ : Addr).add j) = some u) := World.news_of_block (heap_alloc_new w10.drew (.cells #[.bool q2] 4))
            have S11 : Hid (Held [.low w, .rd w.heap.size 1 A2 n2 (bs2.map u8v), .rd w.heap.size 1 A1 n1 (bs.map u8v), .own w.heap.size 50 1 (.slice (some ⟨gx, 0, none⟩) N cx) N (xs.map fv), .own w1.heap.size 2 1 (.slice (some ⟨go, 0, none⟩) count co) count (ord.map nv)] (w10.drew.alloc (.cells #[.bool q2] 4))) := S10.out.drew.below ((Below.refl _ _).alloc (Nat.le_refl _) _)
            have OLD2 : Hid (Old w10.heap.size (.slice (some ⟨gg, 0, none⟩) (k + 1) cap)) := Old.own O10'.out
            have hne8 : ¬ gL = w10.heap.size := by have : gL < w10.heap.size := hgLw; omega
            have d2a : (w10.alloc (.cells #[.bool q2] 4)).cell? ⟨gL, 2, none⟩ = some (.slice Al k cl) := Y11.out.cell 2
            have hgF8 : gF ≤ (w10.drew.alloc (.cells #[.bool q2] 4)).heap.size := by simp; have : gF < w10.heap.size := hgFw; omega
            clear O10' P10 X10 Y10 hle O8 P8 X8 Y8 C8 S8 OLD
            go_wp2
            go_region_law (first
              | (refine step_append_lies _ rfl _ _ _ rfl gF 4 i0 (.bool false) 1 1 Try.underlying29 hi0 hz0 hz1 hz2 rfl (by omega) (.slice Al k cl) k ((lessB (xs.take k) v).map bv) (by rfl) P11.out ⟨w10.drew.heap.size, 0, none⟩ 1 1 [.bool q2] (by rfl) (by simp) C11.out (by simp [Value.oneCell']) (by omega) (by unfold maxLen; omega) (by omega) hgF8 (w10.drew.heap.size + 1) (by simp) ?_
                 intro gh cap2 w12 ho12 hg12 hd12 hlt12
                 have Y12 := Lib.hid (Y11.out.grown hg12 (own_blk_ne P11.out Y11.out (by decide)))
                 have e12 := Y12.out.cell 2
                 have f12 := Y12.out.frozen 2))
            all_goals
              have gs13 := Lib.hid (grown_set (World.grownBy.refl w12 (some gL)) (p := ⟨gL, 2, none⟩) rfl (.slice (some ⟨gh, 0, none⟩) (k + 1) cap2))
              have Y13 : Hid (Blk (w12.setCell ⟨gL, 2, none⟩ (.slice (some ⟨gh, 0, none⟩) (k + 1) cap2)) gL 31 #[.int .i64 (W : Int), .int .i64 (H : Int), .slice (some ⟨gh, 0, none⟩) (k + 1) cap2]) := Y12.out.set_ 2 _
              have P13 := own_grown' ho12 gs13.out (own_blk_ne ho12 Y12.out (by decide))
              have hmap : (lessB (xs.take k) v).map bv ++ [.bool q2] = (lessB (xs.take (k + 1)) v).map bv := by rw [N2.out, List.map_append]; rfl
              rw [hmap] at P13
              have O12 := own_kept O11.out hg12 D10.out
              have O13 := Lib.hid (own_grown' O12 gs13.out (own_blk_ne O12 Y12.out (by decide)))
              have D13 : Hid (Dis (.slice (some ⟨gg, 0, none⟩) (k + 1) cap) (.slice (some ⟨gh, 0, none⟩) (k + 1) cap2)) := fun g' hg' hv' => by
                rcases hd12 with e | e
                · exact D10.out g' hg' (by rw [e, ← hv']; rfl)
                · have e1 : gh = g' := by simpa [Value.ownBlock] using hv'
                  have e2 := OLD2.out g' hg'
                  have e3 : w10.drew.heap.size + 1 = w10.heap.size + 1 := rfl
                  omega
              have X12 := Lib.hid (X11.out.grown hg12 (own_blk_ne P11.out X11.out (by decide)))
              have X13 := Lib.hid (X12.out.grown gs13.out (fun e => by injection e with e; omega))
              have S12 : Hid (Held [.low w, .rd w.heap.size 1 A2 n2 (bs2.map u8v), .rd w.heap.size 1 A1 n1 (bs.map u8v), .own w.heap.size 50 1 (.slice (some ⟨gx, 0, none⟩) N cx) N (xs.map fv), .own w1.heap.size 2 1 (.slice (some ⟨go, 0, none⟩) count co) count (ord.map nv)] w12) := held_row S11.out hg12 (fun j e => (P11.out.lt j e).1) APF.out
              have S13 := Lib.hid (S12.out.grown gs13.out (fun f hf => (APL.out f hf).apart (Nat.le_refl _)))
              have P13' := Lib.hid P13
              clear ho12 hg12 hd12 e12 f12 Y12 gs13 hmap P13 O12 X12 S12 S10 O11 P11 X11 Y11 C11 S11 OLD2 D10 d2 d2a ck hlt
              generalize w12.setCell ⟨gL, 2, none⟩ (.slice (some ⟨gh, 0, none⟩) (k + 1) cap2) = w14 at *
              have ck := own_cellX (S13.out.own 3 rfl) hkN
              rw [HX.out] at ck
              have heq := HEQ.out
              cases sb with
              | true =>
                have NSB : Hid (∀ m < k + 1, fval (xs.getD m 0) = v → true = true) := fun _ _ _ => rfl
                go_wp2
                go_roundw
                case rel => exact ⟨k + 1, true, some ⟨gg, 0, none⟩, some ⟨gh, 0, none⟩, cap, cap2, by go_num, rfl, by omega, NSB, X13, Y13, O13, P13', D13, S13⟩
                case measure => simp [intOf]; omega
              | false =>
                have NSB : Hid (∀ m < k + 1, fval (xs.getD m 0) = v → q3 = true) := fun m hm he => by
                  by_cases c : m = k
                  · rw [c, HX.out] at he
                    rw [← HQ3.out]
                    exact decide_eq_true he
                  · have := HSB.out m (by omega) he
                    cases this
                go_wp2
                go_roundw
                case rel => exact ⟨k + 1, q3, some ⟨gg, 0, none⟩, some ⟨gh, 0, none⟩, cap, cap2, by go_num, rfl, by omega, NSB, X13, Y13, O13, P13', D13, S13⟩
                case measure => simp [intOf]; omega
          -- >>B
        · obtain rfl : N = k := by omega
          have hvj : v = fval (xs.getD j0 0) := by rw [HY.out]; exact HEV.out.symm
          have hsb : sb = true := HSB.out j0 hj0N hvj.symm
          have hyes : SBp (cutB xs v) W N (nbs W H) := by rw [hvj]; exact HB0.out.2.1
          have hnot : ¬ SBp (lessB xs v) W N (nbs W H) := by rw [hvj]; exact less_not HXL.out HB0.out
          have hnb : ∀ j < N, ∀ b ∈ nbs W H j, b < N := fun j hj b hb => by
            rw [← EN.out] at hj ⊢
            exact nbs_lt hj hb
          have hsym : ∀ j < N, ∀ b ∈ nbs W H j, j ∈ nbs W H b := fun j hj b hb => by
            rw [← EN.out] at hj
            exact nbs_sym (by omega) hj hb
          have SY : Hid (∀ G Z, Grp (cutB xs v) N (nbs W H) N G Z → 0 < (spansTo G W Z.length).length) := fun G Z hG => (spans_iff hWN hnb hsym hG).2 hyes
          have SN : Hid (∀ G Z, Grp (lessB xs v) N (nbs W H) N G Z → (spansTo G W Z.length).length = 0) := fun G Z hG => by
            rcases Nat.eq_zero_or_pos (spansTo G W Z.length).length with e | e
            · exact e
            · exact absurd ((spans_iff hWN hnb hsym hG).1 e) hnot
          have hval : validB (W : Int) (H : Int) N = true := by have := HAW.out; unfold areW at this; rw [Bool.and_eq_true] at this; exact this.1
          have HV := Lib.hid hval
          have htk : xs.take N = xs := List.take_of_length_le (by rw [HXL.out]; exact Nat.le_refl _)
          have OF' : Hid (wi.ownsRow gF 4 1 (.slice Af N cf) N ((cutB xs v).map bv)) := by
            have := OF.out
            rwa [htk] at this
          have OL' : Hid (wi.ownsRow gF 4 1 (.slice Al N cl) N ((lessB xs v).map bv)) := by
            have := OL.out
            rwa [htk] at this
          have T6 : Hid (Held ([.low w, .rd w.heap.size 1 A2 n2 (bs2.map u8v), .rd w.heap.size 1 A1 n1 (bs.map u8v), .own w.heap.size 50 1 (.slice (some ⟨gx, 0, none⟩) N cx) N (xs.map fv), .own w1.heap.size 2 1 (.slice (some ⟨go, 0, none⟩) count co) count (ord.map nv)] ++ [.blk gF 31 #[.int .i64 (W : Int), .int .i64 (H : Int), .slice Af N cf]] ++ [.blk gL 31 #[.int .i64 (W : Int), .int .i64 (H : Int), .slice Al N cl]] ++ [.own gF 4 1 (.slice Al N cl) N ((lessB xs v).map bv)]) wi) := ((S.out.add (f := .blk gF 31 #[.int .i64 (W : Int), .int .i64 (H : Int), .slice Af N cf]) XF.out).add (f := .blk gL 31 #[.int .i64 (W : Int), .int .i64 (H : Int), .slice Al N cl]) XL.out).add (f := .own gF 4 1 (.slice Al N cl) N ((lessB xs v).map bv)) OL'.out
          have C1 := Lib.hid (implSpans_ok W H N Af cf (cutB xs v) wi h1 h2 h3 h4 ((cutB_len _ _).trans HXL.out) EN.out HV.out (Rd.own OF'.out))
          unfold fieldV at C1
          subst hsb
          clear hvj hyes hnot hnb hsym hval htk OF OL OF' OL' S HD HSB XF
          go_wp2_with (first
            | (refine wpList_load_blk rfl _ _ rfl gF 0 rfl 31 _ (T6.out.blk 5 rfl) [.int .i64 (W : Int), .int .i64 (H : Int), .slice Af N cf] rfl _ Try.underlying31 rfl (by kernel_rfl) ?_)
            | fail)
          refine C1.out.mono ?_
          rintro e w15 ⟨T1, Z1, hG1, A15, c15, rfl, _, hb⟩
          have hp1 := SY.out T1 Z1 hG1
          obtain ⟨s1, es1⟩ : ∃ s1, (spansTo T1 W Z1.length).length = s1 := ⟨_, rfl⟩
          rw [es1] at hp1 ⊢
          have T7 := Lib.hid (T6.out.below hb)
          have C2 := Lib.hid (implSpans_ok W H N Al cl (lessB xs v) w15 h1 h2 h3 h4 ((lessB_len _ _).trans HXL.out) EN.out HV.out (Rd.own (T7.out.own 7 rfl)))
          unfold fieldV at C2
          clear hb hG1 es1 T6 C1 SY XL
          go_wp2_with (first
            | (refine wpList_load_blk rfl _ _ rfl gL 0 rfl 31 _ (T7.out.blk 6 rfl) [.int .i64 (W : Int), .int .i64 (H : Int), .slice Al N cl] rfl _ Try.underlying31 rfl (by kernel_rfl) ?_)
            | fail)
          refine C2.out.mono ?_
          rintro e w16 ⟨T2, Z2, hG2, A16, c16, rfl, _, hb⟩
          have hp2 := SN.out T2 Z2 hG2
          obtain ⟨s2, es2⟩ : ∃ s2, (spansTo T2 W Z2.length).length = s2 := ⟨_, rfl⟩
          rw [es2] at hp2 ⊢
          have T8 := Lib.hid (T7.out.below hb)
          clear hb hG2 es2 T7 C2 SN
          subst hp2
          go_wp2
          go_ret
          exact ⟨rfl, (T8.out.low 0 rfl).2⟩
end Go.Proofs.Ytbkacmklgkgamaa

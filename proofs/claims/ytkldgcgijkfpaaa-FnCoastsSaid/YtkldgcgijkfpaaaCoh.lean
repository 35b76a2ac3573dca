/- Walk: farthest, FarthestFrom. Conditions: numbers of at most 32 in their parts. -/
import Derived.Test.YtkldgcgijkfpaaaCog
namespace Go.Proofs.Ytkldgcgijkfpaaa
open Go.RowKit
open Num Quick
attribute [local go_sem] run_store_fl run_store_cx

theorem sub_w {x y u v a b : Nat} (h1 : floatBits .sub .f32 x a = some u) (h2 : floatBits .sub .f32 y b = some v) (w : World) : Calls Try.prog 51 #[.complex .f32 x y, .complex .f32 a b] w fun e w' => e = .returned (.complex .f32 u v) ∧ w' = w := by
  have q1 := r32 h1
  have q2 := r32 h2
  go_enter Try.func51, Try.ntmps51
  go_wp2
  go_ret
  exact ⟨rfl, rfl⟩
theorem sub_ex {x y : Nat × Nat} (hx : Cb ((32 : Nat) : Rat) x) (hy : Cb ((32 : Nat) : Rat) y) : ∃ u v, floatBits .sub .f32 x.1 y.1 = some u ∧ floatBits .sub .f32 x.2 y.2 = some v := by
  have s1 := in_sub hx.2.2.1 hy.2.2.1
  have s2 := in_sub hx.2.2.2 hy.2.2.2
  rw [nat_add] at s1 s2
  obtain ⟨u, u1, _⟩ := fsub hx.1 hy.1 (small_top s1 (by omega)).1 (small_top s1 (by omega)).2
  obtain ⟨v, v1, _⟩ := fsub hx.2.1 hy.2.1 (small_top s2 (by omega)).1 (small_top s2 (by omega)).2
  exact ⟨u, v, u1, v1⟩
set_option maxRecDepth 100000 in
set_option maxHeartbeats 4000000 in
theorem farthest_ok {f : Nat → Nat × Nat} {a b : Nat × Nat} (A : Option Addr) (n c : Nat) (w : World) (hn1 : 1 ≤ n) (hn : n ≤ 64) (hf : ∀ i, i < n → Cb ((32 : Nat) : Rat) (f i)) (ha : Cb ((32 : Nat) : Rat) a) (hb : Cb ((32 : Nat) : Rat) b) (hA : Rd w w.heap.size 1 A n ((List.range n).map (fun i => cxv (f i)))) :
    Calls Try.prog 58 #[.slice A n c, .complex .f32 a.1 a.2, .complex .f32 b.1 b.2] w fun e w' => ∃ k most : Nat, e = .returned (.tuple #[.int .i64 (k : Int), .float .f32 most, .bool true]) ∧ w' = w ∧ k < n ∧ Fl .f32 most ∧ 0 ≤ Num.fv .f32 most ∧ Num.fv .f32 most ≤ 1000 := by
  have HA := Lib.hid hA
  have DX : Hid (∀ i, i < n → ∃ d, Dst a b (f i) d) := Lib.hid fun i hi => dst_ex ha hb (hf i hi)
  obtain ⟨W1, W2, eW1, eW2⟩ := sub_ex hb ha
  obtain ⟨a1, a2⟩ := a
  obtain ⟨b1, b2⟩ := b
  simp only at eW1 eW2
  have SW := Lib.hid (fun w => sub_w eW1 eW2 w)
  have EW := Lib.hid (show _ ∧ _ from ⟨eW1, eW2⟩)
  clear hA hf ha hb eW1 eW2
  go_enter Try.func58, Try.ntmps58
  go_wp2_with fail
  refine (SW.out _).mono ?_
  rintro e w1 ⟨rfl, hw1⟩
  obtain rfl := hw1.symm
  clear SW
  go_wp2
  go_loopw [10, 11, 20] (fun sz sm si wr => ∃ (i most : Nat) (z : Int), si = .int .i64 (i : Int) ∧ i ≤ n ∧ sz = .int .i64 z ∧ sm = .float .f32 most ∧ Hid ((i = 0 ∧ z = -1) ∨ ∃ k : Nat, k < i ∧ z = (k : Int)) ∧ Hid (Fl .f32 most ∧ 0 ≤ Num.fv .f32 most ∧ Num.fv .f32 most ≤ 1000) ∧ wr = w) (fun _ _ si _ => n - (intOf si).toNat)
  case atStart => exact ⟨0, 0, -1, rfl, Nat.zero_le _, rfl, rfl, Lib.hid (.inl ⟨rfl, rfl⟩), Lib.hid ⟨c0.1, by rw [c0.2]; exact Rat.le_refl, by rw [c0.2]; decide⟩, rfl⟩
  case round =>
    obtain ⟨i, most, z, rfl, hi, rfl, rfl, HZ, HM, hwr⟩ := hrel
    obtain rfl := hwr.symm
    by_cases hlt : i < n
    · have hii : (i : Int) < (n : Int) := by omega
      obtain ⟨bb, off, rfl, hbb, hc⟩ := HA.out.2 (by omega)
      have cI := hc i _ (range_map_get (fun i => cxv (f i)) hlt)
      obtain ⟨d, D⟩ := DX.out i hlt
      have HD := Lib.hid (show _ ∧ _ ∧ _ from ⟨D.fin, D.nn, D.le⟩)
      have IF := Lib.hid (fun w => isFinite_num D.fin w)
      obtain ⟨w1, w2, q1, q2, d0, e1, e2, e3, e4, L0, hcase⟩ := D.walk
      obtain ⟨p, ep⟩ : ∃ p, f i = p := ⟨_, rfl⟩
      rw [ep] at cI e3 e4
      obtain ⟨p1, p2'⟩ := p
      unfold cxv at cI
      simp only at cI e1 e2 e3 e4 hcase
      obtain rfl : W1 = w1 := Option.some.inj (EW.out.1.symm.trans e1)
      obtain rfl : W2 = w2 := Option.some.inj (EW.out.2.symm.trans e2)
      have SQ := Lib.hid (fun w => sub_w e3 e4 w)
      have L0 := Lib.hid L0
      have hg : ∃ g, (FloatKind.f32.format.order d most == some .gt) = g := ⟨_, rfl⟩
      obtain ⟨g, hg⟩ := hg
      clear hc e1 e2 e3 e4 D ep DX EW
      have FIN : ∀ (z' : Int) (m' : Nat), ((z' = (i : Int) ∧ m' = d) ∨ (z' = z ∧ m' = most ∧ 0 ≤ z)) → Hid (((i + 1 = 0 ∧ z' = -1) ∨ ∃ k : Nat, k < i + 1 ∧ z' = (k : Int))) ∧ Hid (Fl .f32 m' ∧ 0 ≤ Num.fv .f32 m' ∧ Num.fv .f32 m' ≤ 1000) := fun z' m' h => by
        rcases h with ⟨rfl, rfl⟩ | ⟨rfl, rfl, h0⟩
        · exact ⟨Lib.hid (.inr ⟨i, by omega, rfl⟩), HD⟩
        · rcases HZ.out with ⟨_, h1⟩ | ⟨k, hk, rfl⟩
          · omega
          · exact ⟨Lib.hid (.inr ⟨k, by omega, rfl⟩), HM⟩
      have FIN := Lib.hid FIN
      go_wp2_with fail
      refine (SQ.out _).mono ?_
      rintro e w5 ⟨rfl, hw5⟩
      obtain rfl := hw5.symm
      go_wp2_with fail
      refine (L0.out _).mono ?_
      rintro e w5 ⟨rfl, hw5⟩
      obtain rfl := hw5.symm
      clear L0
      rcases hcase with ⟨hab, rfl⟩ | ⟨hab, m1, m2, s, l, M, SZ, LL, hq⟩
      · go_wp2_with fail
        refine (IF.out _).mono ?_
        rintro e w5 ⟨rfl, hw5⟩
        obtain rfl := hw5.symm
        clear IF hab SQ
        by_cases hz : z < 0
        · go_wp2
          go_roundw
          case rel => exact ⟨i + 1, _, _, by go_num, by omega, rfl, rfl, (FIN.out _ _ (.inl ⟨rfl, rfl⟩)).1, (FIN.out _ _ (.inl ⟨rfl, rfl⟩)).2, by first | rfl | trivial⟩
          case measure => simp [intOf]; omega
        · have hz0 : 0 ≤ z := by omega
          cases g
          · go_wp2
            go_roundw
            case rel => exact ⟨i + 1, _, _, by go_num, by omega, rfl, rfl, (FIN.out _ _ (.inr ⟨rfl, rfl, hz0⟩)).1, (FIN.out _ _ (.inr ⟨rfl, rfl, hz0⟩)).2, by first | rfl | trivial⟩
            case measure => simp [intOf]; omega
          · go_wp2
            go_roundw
            case rel => exact ⟨i + 1, _, _, by go_num, by omega, rfl, rfl, (FIN.out _ _ (.inl ⟨rfl, rfl⟩)).1, (FIN.out _ _ (.inl ⟨rfl, rfl⟩)).2, by first | rfl | trivial⟩
            case measure => simp [intOf]; omega
      · have CJ := Lib.hid (fun w => conj_w (w := w) W1 W2)
        have M := Lib.hid M
        have SZ := Lib.hid SZ
        have LL := Lib.hid LL
        have hq := r32 hq
        go_wp2_with fail
        refine (CJ.out _).mono ?_
        rintro e w5 ⟨rfl, hw5⟩
        obtain rfl := hw5.symm
        go_wp2_with fail
        refine (SQ.out _).mono ?_
        rintro e w5 ⟨rfl, hw5⟩
        obtain rfl := hw5.symm
        go_wp2_with fail
        refine (M.out _).mono ?_
        rintro e w5 ⟨rfl, hw5⟩
        obtain rfl := hw5.symm
        go_wp2_with fail
        refine (SZ.out _).mono ?_
        rintro e w5 ⟨rfl, hw5⟩
        obtain rfl := hw5.symm
        go_wp2_with fail
        refine (LL.out _).mono ?_
        rintro e w5 ⟨rfl, hw5⟩
        obtain rfl := hw5.symm
        go_wp2_with fail
        refine (IF.out _).mono ?_
        rintro e w5 ⟨rfl, hw5⟩
        obtain rfl := hw5.symm
        clear IF hab SQ CJ M SZ LL hq
        by_cases hz : z < 0
        · go_wp2
          go_roundw
          case rel => exact ⟨i + 1, _, _, by go_num, by omega, rfl, rfl, (FIN.out _ _ (.inl ⟨rfl, rfl⟩)).1, (FIN.out _ _ (.inl ⟨rfl, rfl⟩)).2, by first | rfl | trivial⟩
          case measure => simp [intOf]; omega
        · have hz0 : 0 ≤ z := by omega
          cases g
          · go_wp2
            go_roundw
            case rel => exact ⟨i + 1, _, _, by go_num, by omega, rfl, rfl, (FIN.out _ _ (.inr ⟨rfl, rfl, hz0⟩)).1, (FIN.out _ _ (.inr ⟨rfl, rfl, hz0⟩)).2, by first | rfl | trivial⟩
            case measure => simp [intOf]; omega
          · go_wp2
            go_roundw
            case rel => exact ⟨i + 1, _, _, by go_num, by omega, rfl, rfl, (FIN.out _ _ (.inl ⟨rfl, rfl⟩)).1, (FIN.out _ _ (.inl ⟨rfl, rfl⟩)).2, by first | rfl | trivial⟩
            case measure => simp [intOf]; omega
    · obtain rfl : i = n := by omega
      have hii : ¬ (i : Int) < (i : Int) := by omega
      rcases HZ.out with ⟨h0, _⟩ | ⟨k, hk, rfl⟩
      · omega
      · go_wp2
        go_ret3
        exact ⟨k, most, rfl, rfl, hk, HM.out⟩
theorem FarthestFrom_ok {f : Nat → Nat × Nat} {a b : Nat × Nat} (A : Option Addr) (n c : Nat) (w : World) (hn1 : 1 ≤ n) (hn : n ≤ 64) (hf : ∀ i, i < n → Cb ((32 : Nat) : Rat) (f i)) (ha : Cb ((32 : Nat) : Rat) a) (hb : Cb ((32 : Nat) : Rat) b) (hA : Rd w w.heap.size 1 A n ((List.range n).map (fun i => cxv (f i)))) :
    Calls Try.prog 24 #[.slice A n c, .complex .f32 a.1 a.2, .complex .f32 b.1 b.2] w fun e w' => ∃ k most : Nat, e = .returned (.tuple #[.int .i64 (k : Int), .float .f32 most, .bool true]) ∧ w' = w ∧ k < n ∧ Fl .f32 most ∧ 0 ≤ Num.fv .f32 most ∧ Num.fv .f32 most ≤ 1000 := by
  have AP := Lib.hid (arePoints_w f A n c w (by omega) hf hA)
  have F1 := Lib.hid (fun w => finiteC_num ha.1 ha.2.1 w)
  have F2 := Lib.hid (fun w => finiteC_num hb.1 hb.2.1 w)
  have FA := Lib.hid (farthest_ok A n c w hn1 hn hf ha hb hA)
  have hn0 : ((n : Int) == 0) = false := by simp; omega
  clear hf ha hb hA
  go_enter Try.func24, Try.ntmps24
  go_wp2_with fail
  refine AP.out.mono ?_
  rintro e w1 ⟨rfl, hw1⟩
  obtain rfl := hw1.symm
  go_wp2_with fail
  refine (F1.out _).mono ?_
  rintro e w1 ⟨rfl, hw1⟩
  obtain rfl := hw1.symm
  go_wp2_with fail
  refine (F2.out _).mono ?_
  rintro e w1 ⟨rfl, hw1⟩
  obtain rfl := hw1.symm
  go_wp2_with fail
  refine FA.out.mono ?_
  rintro e w1 ⟨k, most, rfl, hw1, hk, hm⟩
  obtain rfl := hw1.symm
  have HM := Lib.hid hm
  clear hm
  go_wp2
  go_ret3
  exact ⟨k, most, rfl, rfl, hk, HM.out⟩
end Go.Proofs.Ytkldgcgijkfpaaa

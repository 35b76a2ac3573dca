/- Walk: weights that the reference draws out of bytes. Conditions: at most 2^20 bytes. -/
import Derived.Test.YtbkacmklgkgamaaWb
import Derived.Test.YtbkacmklgkgamaaLb
namespace Go.Proofs.Ytbkacmklgkgamaa
open Go.RowKit

def wbit (x : Nat) : Nat := (Ieee.single.div (floatOfInt .f32 ((x : Int) - 16)) 1082130432).getD 0
theorem wbit_ok : ∀ x : Nat, x < 33 → Ieee.single.div (floatOfInt .f32 ((x : Int) - 16)) 1082130432 = some (wbit x) ∧ finW (wbit x) = true := by decide +kernel
theorem wbit_run (x : Nat) (hx : x < 33) (w : World) : (binOp .quo 50 (.float .f32 (floatOfInt .f32 ((x : Int) - 16))) (.float .f32 1082130432)).run Try.prog w = .ok (.float .f32 (wbit x)) w :=
  run_float_arith w .quo _ .f32 _ _ _ (wbit_ok x hx).1
set_option maxRecDepth 100000 in
set_option maxHeartbeats 2000000 in
theorem B10Weights_any (n c N : Nat) (A : Option Addr) (bs : List Nat) (w : World) (hn : n ≤ 1048576) (hc : n ≤ c) (hN : N ≤ 256) (hb : ∀ x ∈ bs, x < 256) (hA : Rd w w.heap.size 1 A n (bs.map u8v)) :
    Calls Try.prog 17 #[.slice A n c, .int .i64 (N : Int)] w fun e w' => ∃ (xs : List Nat) (Ao : Option Addr) (co : Nat), e = .returned (.slice Ao N co) ∧ xs.length = N ∧ xs.all finW = true ∧
      w'.ownsRow w.heap.size 50 1 (.slice Ao N co) N (xs.map fv) ∧ Below w.heap.size w w' := by
  have PC := Lib.hid (fun a w' (ha : a ≤ 1099511627776) (hs : Src w' w.heap.size A n c a bs) => pick_any w.heap.size n c a 33 A bs w' ha (by omega) (by omega) hs)
  obtain ⟨u, eu⟩ : ∃ u, u = w.alloc (.cells #[.slice A n c, .int .i64 0, .int .u64 0] 84) := ⟨_, rfl⟩
  have V0 : Hid (Below w.heap.size w u) := by rw [eu]; exact (Below.refl _ _).alloc (Nat.le_refl _) _
  have hzu : Hid (u.heap.size = w.heap.size + 1) := by unfold Hid; rw [eu]; simp
  have S0 : Hid (Src u w.heap.size A n c 0 bs) := by
    rw [eu]
    exact ⟨⟨0, by omega, by omega, Blk.new _ _ _⟩, hA.below ((Below.refl _ _).alloc (Nat.le_refl _) _), hb, hn, hc⟩
  have FC : Hid (Calls Try.prog 25 #[.slice A n c] w fun e w' => e = .returned (.pointer (some ⟨w.heap.size, 0, none⟩)) ∧ w' = u) := by rw [eu]; exact l00From_any A n c w
  clear eu hA
  go_enter Try.func17, Try.ntmps17
  go_wp2_with fail
  refine FC.out.mono ?_
  rintro e u' ⟨rfl, hu⟩
  obtain rfl := hu.symm
  have b1 : Hid (Blk (u.alloc (.cells #[] 50)) u.heap.size 50 #[]) := Blk.new _ _ _
  have R0 : Hid ((u.alloc (.cells #[] 50)).ownsRow w.heap.size 50 1 (.slice (some ⟨u.heap.size, 0, none⟩) 0 0) 0 (([] : List Nat).map fv)) := b1.out.own (n := 0) (size := 1) V0.out.size rfl (by unfold maxLen; omega)
  have S1 := Lib.hid (S0.out.alloc (.cells #[] 50))
  have V1 := Lib.hid (V0.out.alloc V0.out.size (.cells #[] 50))
  clear b1 S0 V0 FC
  go_wp2
  go_loopw [1, 6] (fun sn so wr => ∃ (k j a' : Nat) (xs : List Nat) (Ao : Option Addr) (co : Nat), sn = .int .i64 (k : Int) ∧ so = .slice Ao j co ∧ k + j = N ∧ a' ≤ j ∧ Hid (xs.length = j) ∧ Hid (xs.all finW = true) ∧ Hid (wr.ownsRow w.heap.size 50 1 (.slice Ao j co) j (xs.map fv)) ∧ Hid (Src wr w.heap.size A n c a' bs) ∧ Hid (Below w.heap.size w wr)) (fun sn _ _ => (intOf sn).toNat)
  case atStart => exact ⟨N, 0, 0, [], _, 0, rfl, rfl, rfl, Nat.le_refl _, rfl, rfl, R0, S1, V1⟩
  case round =>
    clear R0 S1 V1
    obtain ⟨k, j, a', xs, Ao, co, rfl, rfl, hkj, haj, HX, HF, R, S, V⟩ := hrel
    by_cases hk : 0 < k
    · obtain ⟨k', hk'⟩ : ∃ k', k - 1 = k' := ⟨_, rfl⟩
      have zk : (k : Int) - 1 = (k' : Int) := by omega
      have P1 := Lib.hid (PC.out a' wr (by omega) S.out)
      have hgw : w.heap.size < wr.heap.size := S.out.size
      go_wp2_with fail
      refine P1.out.mono ?_
      rintro e w1 ⟨x, rfl, hx, hs1, hg1⟩
      have hne : some w.heap.size ≠ (Value.slice Ao j co).ownBlock := by
        obtain ⟨s, _, _, hbk⟩ := S.out.blk
        exact own_blk_ne R.out hbk (by decide)
      have R1 := Lib.hid (own_grown' R.out hg1 hne)
      have S1 := Lib.hid hs1
      have V1 := Lib.hid (V.out.grown hg1 V.out.size (fun k e => by injection e with e; omega))
      have hq := wbit_run x hx
      have hfx := (wbit_ok x hx).2
      have hsz1 := V1.out.size
      have hlx : (xs ++ [wbit x]).length = j + 1 := by rw [List.length_append, HX.out]; rfl
      have hfa : (xs ++ [wbit x]).all finW = true := by rw [List.all_append, HF.out]; simp [hfx]
      have HX1 := Lib.hid hlx
      have HF1 := Lib.hid hfa
      clear hs1 hg1 P1 R S V hne hlx hfa hfx
      generalize wbit x = wb at *
      go_wp2_with (at_builtin; refine wpList_append_one (W := w1) rfl _ _ _ rfl w.heap.size 50 (.float .f32 0) 4 Try.underlying45 fltInfo rfl Ao j co _ rfl R1.out (.float .f32 wb) _ rfl (by simp) rfl (by unfold maxLen; omega) (by omega) hsz1 ?_; intro A9 c9 w9 ho9 hg9 hd9)
      have hne9 : ∀ k, (Value.slice Ao j co).ownBlock = some k → w.heap.size < k := fun k e => by
        have h1 := (R1.out.lt k e).1
        obtain ⟨s, _, _, hbk⟩ := S1.out.blk
        have h2 := own_blk_ne R1.out hbk (by decide)
        have h3 : k ≠ w.heap.size := fun e' => h2 (by rw [e, e'])
        omega
      have S9 := Lib.hid (S1.out.grown' hg9 hne9)
      have V9 := Lib.hid (V1.out.grown hg9 hsz1 (fun k e => (R1.out.lt k e).1))
      have R9 : Hid (w9.ownsRow w.heap.size 50 1 (.slice A9 (j + 1) c9) (j + 1) ((xs ++ [wb]).map fv)) := by rw [List.map_append]; exact ho9
      clear ho9 hg9 hd9 hne9
      go_roundw
      case rel => exact ⟨k', j + 1, a' + 1, xs ++ [wb], A9, c9, by first | rfl | go_num, rfl, by omega, by omega, HX1, HF1, R9, S9, V9⟩
      case measure => first | (simp [intOf]; done) | (simp [intOf]; omega)
    · obtain rfl : k = 0 := by omega
      obtain rfl : j = N := by omega
      go_wp2
      go_ret
      exact ⟨xs, Ao, co, rfl, HX.out, HF.out, R.out, V.out⟩
end Go.Proofs.Ytbkacmklgkgamaa

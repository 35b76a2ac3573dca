/- Walks: the sides of a cell, of the program and of the reference. -/
import Derived.Test.YtoibgpmpngccjaaHc
import Derived.Test.YtoibgpmpngccjaaApp
import Derived.Deep.DeepCutAuto
namespace Go.Proofs.Ytoibgpmpngccjaa
open Go.RowKit

theorem intInfo : (Try.prog.info? 2).map (fun i => (i.zero, i.size, i.bytes)) = some (some (.int .i64 0), 1, 8) := by kernel_rfl

def nv (n : Nat) : Value := .int .i64 (n : Int)
def nb1 (W i : Nat) : List Nat := if W ≤ i then [i - W] else []
def nb2 (W i : Nat) : List Nat := if 0 < i % W then [i - 1] else []
def nb3 (W i : Nat) : List Nat := if i % W + 1 < W then [i + 1] else []
def nb4 (W H i : Nat) : List Nat := if i + W < W * H then [i + W] else []
/-- The sides of cell i: above, left, right, below. -/
def nbs (W H i : Nat) : List Nat := nb1 W i ++ nb2 W i ++ nb3 W i ++ nb4 W H i

theorem nbs_lt {W H i b : Nat} (hi : i < W * H) (hb : b ∈ nbs W H i) : b < W * H := by
  have hW : 0 < W := by
    rcases Nat.eq_zero_or_pos W with h | h
    · subst h; simp at hi
    · exact h
  unfold nbs nb1 nb2 nb3 nb4 at hb
  simp only [List.mem_append] at hb
  rcases hb with ((hb | hb) | hb) | hb <;> split at hb <;> simp at hb
  · omega
  · omega
  · subst hb
    have hq : i / W < H := Nat.div_lt_of_lt_mul hi
    have h1 := Nat.mul_le_mul_left W (show i / W + 1 ≤ H from hq)
    have h2 := Nat.div_add_mod i W
    rw [Nat.mul_add] at h1
    omega
  · omega
theorem oneCell_int (k : IntKind) (n : Int) : (Value.int k n).oneCell' = true := rfl

set_option maxRecDepth 100000 in
set_option maxHeartbeats 1000000 in
theorem beside_any (W H i : Nat) (w : World) (hW : 1 ≤ W) (hW' : W ≤ 17) (hH : 1 ≤ H) (hH' : H ≤ 17) (hi : i < W * H) (g n0 c0 : Nat) (A0 : Option Addr) (hbk : Blk w g 26 #[.int .i64 W, .int .i64 H, .slice A0 n0 c0]) :
    Calls Try.prog 56 #[.pointer (some ⟨g, 0, none⟩), .int .i64 i] w fun e w' => ∃ A n c, e = .returned (.slice A n c) ∧ w'.ownsRow w.heap.size 2 1 (.slice A n c) n ((nbs W H i).map nv) ∧ Below w.heap.size w w' := by
  obtain ⟨m, hm, hmW, Hm⟩ : ∃ m : Nat, (i : Int) % (W : Int) = (m : Int) ∧ m < W ∧ Hid (i % W = m) := ⟨i % W, by omega, Nat.mod_lt _ (by omega), rfl⟩
  obtain ⟨P, hP, hiP, hPle, HP⟩ : ∃ P : Nat, (W : Int) * (H : Int) = (P : Int) ∧ i < P ∧ P ≤ 289 ∧ Hid (W * H = P) :=
    ⟨W * H, by simp, hi, by have := Nat.mul_le_mul hW' hH'; omega, rfl⟩
  obtain ⟨R, hR, hRP, HR⟩ : ∃ R : Nat, ((H : Int) - 1) * (W : Int) = (R : Int) ∧ R + W = P ∧ Hid (True) := by
    refine ⟨(H - 1) * W, by rw [Int.natCast_mul, Int.natCast_sub hH]; rfl, ?_, trivial⟩
    have h1 : (H - 1) * W + W = H * W := by rw [← Nat.succ_mul]; congr 1; omega
    have h2 := HP.out
    rw [Nat.mul_comm] at h2
    omega
  clear hi
  have k0 : ∀ w', Below w.heap.size w w' → w'.cell? ⟨g, 0, none⟩ = some (.int .i64 (W : Int)) ∧ w'.cell? ⟨g, 1, none⟩ = some (.int .i64 (H : Int)) := fun w' h => ⟨(h.cell hbk.lt).trans (hbk.cell 0), (h.cell hbk.lt).trans (hbk.cell 1)⟩
  have K0 := Lib.hid k0
  have e0 : w.cell? ⟨g, 0, none⟩ = some (.int .i64 (W : Int)) := hbk.cell 0
  have hgl : g < w.heap.size := hbk.lt
  have hgn : ¬ g = w.heap.size := by omega
  obtain ⟨d0, d1⟩ := k0 _ ((Below.refl w.heap.size w).alloc (Nat.le_refl _) (.cells #[] 2))
  clear k0 hbk
  go_enter Try.func56, Try.ntmps56
  go_upto_if 12 with fail
  have H0 : Hid ((w.alloc (.cells #[] 2)).ownsRow w.heap.size 2 1 (.slice (some ⟨w.heap.size, 0, none⟩) 0 0) 0 []) := World.ownsRow_made w #[] 0 (Nat.le_refl _) (by unfold maxLen; omega) rfl
  have B0 : Hid (Below w.heap.size w (w.alloc (.cells #[] 2))) := (Below.refl _ _).alloc (Nat.le_refl _) _
  go_cut [5] (fun s wx => ∃ A n c, s = .slice A n c ∧ wx.ownsRow w.heap.size 2 1 (.slice A n c) n ((nb1 W i).map nv) ∧ n ≤ 1 ∧ Below w.heap.size w wx)
  case first =>
    by_cases h : W ≤ i
    · go_wp2_with (at_builtin; refine wpList_append_one (W := w.alloc (.cells #[] 2)) rfl _ _ _ rfl w.heap.size 2 (.int .i64 0) 8 Try.underlying55 intInfo rfl _ 0 0 _ rfl H0.out (.int .i64 ((i : Int) - (W : Int))) _ rfl (by simp) rfl (by unfold maxLen; omega) (by omega) (by simp) ?_; intro A1 c1 w1 ho1 hg1 hd1)
      go_meet
      refine ⟨A1, 0 + 1, c1, rfl, ?_, by omega, B0.out.grown hg1 (by simp) (by simp [Value.ownBlock])⟩
      have e : (nb1 W i).map nv = [.int .i64 ((i : Int) - (W : Int))] := by unfold nb1 nv; rw [if_pos h, List.map_cons, List.map_nil, Int.natCast_sub h]
      have e' : (nb1 W i).map nv = [] ++ [.int .i64 ((i : Int) - (W : Int))] := by rw [e]; rfl
      rw [e']
      exact ho1
    · go_wp2
      go_meet
      refine ⟨_, 0, 0, rfl, ?_, by omega, B0.out⟩
      have e : nb1 W i = [] := by unfold nb1; rw [if_neg (by omega)]
      rw [e]
      exact H0.out
  case rest =>
    obtain ⟨A, n, c, rfl, ho, hn, hb⟩ := hcut
    have hsz := hb.size
    have HO := Lib.hid ho
    clear ho
    obtain ⟨d0, d1⟩ := K0.out wc hb
    go_upto_if 28 with fail
    go_cut [5] (fun s wx => ∃ A n c, s = .slice A n c ∧ wx.ownsRow w.heap.size 2 1 (.slice A n c) n ((nb1 W i ++ nb2 W i).map nv) ∧ n ≤ 2 ∧ Below w.heap.size w wx)
    case first =>
      by_cases h : 0 < m
      · go_wp2_with (at_builtin; refine wpList_append_one (W := wc) rfl _ _ _ rfl w.heap.size 2 (.int .i64 0) 8 Try.underlying55 intInfo rfl A n c _ rfl HO.out (.int .i64 ((i : Int) - 1)) _ rfl (by simp) rfl (by unfold maxLen; omega) (by omega) hsz ?_; intro A1 c1 w1 ho1 hg1 hd1)
        go_meet
        refine ⟨A1, n + 1, c1, rfl, ?_, by omega, hb.grown hg1 hsz (fun k e => (HO.out.lt k e).1)⟩
        have e : (nb2 W i).map nv = [.int .i64 ((i : Int) - 1)] := by have hi1 : 1 ≤ i := (by have h2 := Hm.out; have h3 := Nat.mod_le i W; omega); unfold nb2 nv; rw [Hm.out, if_pos h, List.map_cons, List.map_nil, Int.natCast_sub hi1]; rfl
        have e' : (nb1 W i ++ nb2 W i).map nv = (nb1 W i).map nv ++ [.int .i64 ((i : Int) - 1)] := by rw [List.map_append, e]
        rw [e']
        exact ho1
      · go_wp2
        go_meet
        refine ⟨A, n, c, rfl, ?_, by omega, hb⟩
        have e : nb2 W i = [] := by unfold nb2; rw [Hm.out, if_neg (by omega)]
        rw [e, List.append_nil]
        exact HO.out
    case rest =>
      obtain ⟨A, n, c, rfl, ho, hn, hb⟩ := hcut
      have hsz := hb.size
      have HO := Lib.hid ho
      clear ho
      obtain ⟨d0, d1⟩ := K0.out wc hb
      go_wp2
      go_quiet (fail)
      have hb' := below_drewN' hb nq
      have HO' : Hid ((wc.drewN nq).ownsRow w.heap.size 2 1 (.slice A n c) n ((nb1 W i ++ nb2 W i).map nv)) := HO.out
      clear d0 d1 HO hb hsz
      obtain ⟨d0, d1⟩ := K0.out _ hb'
      generalize World.drewN wc nq = wd at *
      have hb := hb'
      have HO := HO'
      have hsz := hb.size
      clear hb' HO'
      go_upto_if 45 with fail
      go_cut [5] (fun s wx => ∃ A n c, s = .slice A n c ∧ wx.ownsRow w.heap.size 2 1 (.slice A n c) n ((nb1 W i ++ nb2 W i ++ nb3 W i).map nv) ∧ n ≤ 3 ∧ Below w.heap.size w wx)
      case first =>
        by_cases h : m + 1 < W
        · go_wp2_with (at_builtin; refine wpList_append_one (W := wd) rfl _ _ _ rfl w.heap.size 2 (.int .i64 0) 8 Try.underlying55 intInfo rfl A n c _ rfl HO.out (.int .i64 ((i : Int) + 1)) _ rfl (by simp) rfl (by unfold maxLen; omega) (by omega) hsz ?_; intro A1 c1 w1 ho1 hg1 hd1)
          go_meet
          refine ⟨A1, n + 1, c1, rfl, ?_, by omega, hb.grown hg1 hsz (fun k e => (HO.out.lt k e).1)⟩
          have e : (nb3 W i).map nv = [.int .i64 ((i : Int) + 1)] := by unfold nb3 nv; rw [Hm.out, if_pos h]; rfl
          have e' : (nb1 W i ++ nb2 W i ++ nb3 W i).map nv = (nb1 W i ++ nb2 W i).map nv ++ [.int .i64 ((i : Int) + 1)] := by rw [List.map_append, e]
          rw [e']
          exact ho1
        · go_wp2
          go_meet
          refine ⟨A, n, c, rfl, ?_, by omega, hb⟩
          have e : nb3 W i = [] := by unfold nb3; rw [Hm.out, if_neg (by omega)]
          rw [e, List.append_nil]
          exact HO.out
      case rest =>
        obtain ⟨A, n, c, rfl, ho, hn, hb⟩ := hcut
        have hsz := hb.size
        have HO := Lib.hid ho
        clear ho
        obtain ⟨d0, d1⟩ := K0.out wc hb
        go_wp2
        go_quiet (fail)
        have hb' := below_drewN' hb nq
        have HO' : Hid ((wc.drewN nq).ownsRow w.heap.size 2 1 (.slice A n c) n ((nb1 W i ++ nb2 W i ++ nb3 W i).map nv)) := HO.out
        clear d0 d1 HO hb hsz
        obtain ⟨d0, d1⟩ := K0.out _ hb'
        generalize World.drewN wc nq = wd at *
        have hb := hb'
        have HO := HO'
        have hsz := hb.size
        clear hb' HO'
        go_upto_if 66 with fail
        go_cut [5] (fun s wx => ∃ A n c, s = .slice A n c ∧ wx.ownsRow w.heap.size 2 1 (.slice A n c) n ((nb1 W i ++ nb2 W i ++ nb3 W i ++ nb4 W H i).map nv) ∧ n ≤ 4 ∧ Below w.heap.size w wx)
        case first =>
          by_cases h : i + W < P
          · go_wp2_with (at_builtin; refine wpList_append_one (W := wd) rfl _ _ _ rfl w.heap.size 2 (.int .i64 0) 8 Try.underlying55 intInfo rfl A n c _ rfl HO.out (.int .i64 ((i : Int) + (W : Int))) _ rfl (by simp) rfl (by unfold maxLen; omega) (by omega) hsz ?_; intro A1 c1 w1 ho1 hg1 hd1)
            go_meet
            refine ⟨A1, n + 1, c1, rfl, ?_, by omega, hb.grown hg1 hsz (fun k e => (HO.out.lt k e).1)⟩
            have e : (nb4 W H i).map nv = [.int .i64 ((i : Int) + (W : Int))] := by unfold nb4 nv; rw [HP.out, if_pos h]; simp
            have e' : (nb1 W i ++ nb2 W i ++ nb3 W i ++ nb4 W H i).map nv = (nb1 W i ++ nb2 W i ++ nb3 W i).map nv ++ [.int .i64 ((i : Int) + (W : Int))] := by rw [List.map_append, e]
            rw [e']
            exact ho1
          · go_wp2
            go_meet
            refine ⟨A, n, c, rfl, ?_, by omega, hb⟩
            have e : nb4 W H i = [] := by unfold nb4; rw [HP.out, if_neg (by omega)]
            rw [e, List.append_nil]
            exact HO.out
        case rest =>
          obtain ⟨A, n, c, rfl, ho, hn, hb⟩ := hcut
          go_wp2
          go_ret
          exact ⟨A, n, c, rfl, ho, hb⟩

set_option maxRecDepth 100000 in
set_option maxHeartbeats 1000000 in
theorem neighbours_any (W H i : Nat) (w : World) (hW : 1 ≤ W) (hW' : W ≤ 17) (hH : 1 ≤ H) (hH' : H ≤ 17) (hi : i < W * H) :
    Calls Try.prog 52 #[.int .i64 W, .int .i64 H, .int .i64 i] w fun e w' => ∃ A n c, e = .returned (.slice A n c) ∧ w'.ownsRow w.heap.size 2 1 (.slice A n c) n ((nbs W H i).map nv) ∧ Below w.heap.size w w' := by
  obtain ⟨m, hm, hmW, Hm⟩ : ∃ m : Nat, (i : Int) % (W : Int) = (m : Int) ∧ m < W ∧ Hid (i % W = m) := ⟨i % W, by omega, Nat.mod_lt _ (by omega), rfl⟩
  obtain ⟨P, hP, hiP, hPle, HP⟩ : ∃ P : Nat, (W : Int) * (H : Int) = (P : Int) ∧ i < P ∧ P ≤ 289 ∧ Hid (W * H = P) :=
    ⟨W * H, by simp, hi, by have := Nat.mul_le_mul hW' hH'; omega, rfl⟩
  obtain ⟨R, hR, hRP, HR⟩ : ∃ R : Nat, ((H : Int) - 1) * (W : Int) = (R : Int) ∧ R + W = P ∧ Hid (True) := by
    refine ⟨(H - 1) * W, by rw [Int.natCast_mul, Int.natCast_sub hH]; rfl, ?_, trivial⟩
    have h1 : (H - 1) * W + W = H * W := by rw [← Nat.succ_mul]; congr 1; omega
    have h2 := HP.out
    rw [Nat.mul_comm] at h2
    omega
  clear hi
  go_enter Try.func52, Try.ntmps52
  go_upto_if 11 with fail
  have H0 : Hid ((w.alloc (.cells #[] 2)).ownsRow w.heap.size 2 1 (.slice (some ⟨w.heap.size, 0, none⟩) 0 0) 0 []) := World.ownsRow_made w #[] 0 (Nat.le_refl _) (by unfold maxLen; omega) rfl
  have B0 : Hid (Below w.heap.size w (w.alloc (.cells #[] 2))) := (Below.refl _ _).alloc (Nat.le_refl _) _
  go_cut [7] (fun s wx => ∃ A n c, s = .slice A n c ∧ wx.ownsRow w.heap.size 2 1 (.slice A n c) n ((nb1 W i).map nv) ∧ n ≤ 1 ∧ Below w.heap.size w wx)
  case first =>
    by_cases h : W ≤ i
    · go_wp2_with (at_builtin; refine wpList_append_one (W := w.alloc (.cells #[] 2)) rfl _ _ _ rfl w.heap.size 2 (.int .i64 0) 8 Try.underlying55 intInfo rfl _ 0 0 _ rfl H0.out (.int .i64 ((i : Int) - (W : Int))) _ rfl (by simp) rfl (by unfold maxLen; omega) (by omega) (by simp) ?_; intro A1 c1 w1 ho1 hg1 hd1)
      go_meet
      refine ⟨A1, 0 + 1, c1, rfl, ?_, by omega, B0.out.grown hg1 (by simp) (by simp [Value.ownBlock])⟩
      have e : (nb1 W i).map nv = [.int .i64 ((i : Int) - (W : Int))] := by unfold nb1 nv; rw [if_pos h, List.map_cons, List.map_nil, Int.natCast_sub h]
      have e' : (nb1 W i).map nv = [] ++ [.int .i64 ((i : Int) - (W : Int))] := by rw [e]; rfl
      rw [e']
      exact ho1
    · go_wp2
      go_meet
      refine ⟨_, 0, 0, rfl, ?_, by omega, B0.out⟩
      have e : nb1 W i = [] := by unfold nb1; rw [if_neg (by omega)]
      rw [e]
      exact H0.out
  case rest =>
    obtain ⟨A, n, c, rfl, ho, hn, hb⟩ := hcut
    have hsz := hb.size
    have HO := Lib.hid ho
    clear ho
    go_upto_if 21 with fail
    go_cut [7] (fun s wx => ∃ A n c, s = .slice A n c ∧ wx.ownsRow w.heap.size 2 1 (.slice A n c) n ((nb1 W i ++ nb2 W i).map nv) ∧ n ≤ 2 ∧ Below w.heap.size w wx)
    case first =>
      by_cases h : 0 < m
      · go_wp2_with (at_builtin; refine wpList_append_one (W := wc) rfl _ _ _ rfl w.heap.size 2 (.int .i64 0) 8 Try.underlying55 intInfo rfl A n c _ rfl HO.out (.int .i64 ((i : Int) - 1)) _ rfl (by simp) rfl (by unfold maxLen; omega) (by omega) hsz ?_; intro A1 c1 w1 ho1 hg1 hd1)
        go_meet
        refine ⟨A1, n + 1, c1, rfl, ?_, by omega, hb.grown hg1 hsz (fun k e => (HO.out.lt k e).1)⟩
        have e : (nb2 W i).map nv = [.int .i64 ((i : Int) - 1)] := by have hi1 : 1 ≤ i := (by have h2 := Hm.out; have h3 := Nat.mod_le i W; omega); unfold nb2 nv; rw [Hm.out, if_pos h, List.map_cons, List.map_nil, Int.natCast_sub hi1]; rfl
        have e' : (nb1 W i ++ nb2 W i).map nv = (nb1 W i).map nv ++ [.int .i64 ((i : Int) - 1)] := by rw [List.map_append, e]
        rw [e']
        exact ho1
      · go_wp2
        go_meet
        refine ⟨A, n, c, rfl, ?_, by omega, hb⟩
        have e : nb2 W i = [] := by unfold nb2; rw [Hm.out, if_neg (by omega)]
        rw [e, List.append_nil]
        exact HO.out
    case rest =>
      obtain ⟨A, n, c, rfl, ho, hn, hb⟩ := hcut
      have hsz := hb.size
      have HO := Lib.hid ho
      clear ho
      go_upto_if 32 with fail
      go_cut [7] (fun s wx => ∃ A n c, s = .slice A n c ∧ wx.ownsRow w.heap.size 2 1 (.slice A n c) n ((nb1 W i ++ nb2 W i ++ nb3 W i).map nv) ∧ n ≤ 3 ∧ Below w.heap.size w wx)
      case first =>
        by_cases h : m + 1 < W
        · go_wp2_with (at_builtin; refine wpList_append_one (W := wc) rfl _ _ _ rfl w.heap.size 2 (.int .i64 0) 8 Try.underlying55 intInfo rfl A n c _ rfl HO.out (.int .i64 ((i : Int) + 1)) _ rfl (by simp) rfl (by unfold maxLen; omega) (by omega) hsz ?_; intro A1 c1 w1 ho1 hg1 hd1)
          go_meet
          refine ⟨A1, n + 1, c1, rfl, ?_, by omega, hb.grown hg1 hsz (fun k e => (HO.out.lt k e).1)⟩
          have e : (nb3 W i).map nv = [.int .i64 ((i : Int) + 1)] := by unfold nb3 nv; rw [Hm.out, if_pos h]; rfl
          have e' : (nb1 W i ++ nb2 W i ++ nb3 W i).map nv = (nb1 W i ++ nb2 W i).map nv ++ [.int .i64 ((i : Int) + 1)] := by rw [List.map_append, e]
          rw [e']
          exact ho1
        · go_wp2
          go_meet
          refine ⟨A, n, c, rfl, ?_, by omega, hb⟩
          have e : nb3 W i = [] := by unfold nb3; rw [Hm.out, if_neg (by omega)]
          rw [e, List.append_nil]
          exact HO.out
      case rest =>
        obtain ⟨A, n, c, rfl, ho, hn, hb⟩ := hcut
        have hsz := hb.size
        have HO := Lib.hid ho
        clear ho
        go_upto_if 43 with fail
        go_cut [7] (fun s wx => ∃ A n c, s = .slice A n c ∧ wx.ownsRow w.heap.size 2 1 (.slice A n c) n ((nb1 W i ++ nb2 W i ++ nb3 W i ++ nb4 W H i).map nv) ∧ n ≤ 4 ∧ Below w.heap.size w wx)
        case first =>
          by_cases h : i + W < P
          · go_wp2_with (at_builtin; refine wpList_append_one (W := wc) rfl _ _ _ rfl w.heap.size 2 (.int .i64 0) 8 Try.underlying55 intInfo rfl A n c _ rfl HO.out (.int .i64 ((i : Int) + (W : Int))) _ rfl (by simp) rfl (by unfold maxLen; omega) (by omega) hsz ?_; intro A1 c1 w1 ho1 hg1 hd1)
            go_meet
            refine ⟨A1, n + 1, c1, rfl, ?_, by omega, hb.grown hg1 hsz (fun k e => (HO.out.lt k e).1)⟩
            have e : (nb4 W H i).map nv = [.int .i64 ((i : Int) + (W : Int))] := by unfold nb4 nv; rw [HP.out, if_pos h]; simp
            have e' : (nb1 W i ++ nb2 W i ++ nb3 W i ++ nb4 W H i).map nv = (nb1 W i ++ nb2 W i ++ nb3 W i).map nv ++ [.int .i64 ((i : Int) + (W : Int))] := by rw [List.map_append, e]
            rw [e']
            exact ho1
          · go_wp2
            go_meet
            refine ⟨A, n, c, rfl, ?_, by omega, hb⟩
            have e : nb4 W H i = [] := by unfold nb4; rw [HP.out, if_neg (by omega)]
            rw [e, List.append_nil]
            exact HO.out
        case rest =>
          obtain ⟨A, n, c, rfl, ho, hn, hb⟩ := hcut
          go_wp2
          go_ret
          exact ⟨A, n, c, rfl, ho, hb⟩
end Go.Proofs.Ytoibgpmpngccjaa

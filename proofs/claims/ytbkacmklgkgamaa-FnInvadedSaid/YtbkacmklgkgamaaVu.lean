/- Walks: the comparison of numbers, and the library's stable sort at single-precision numbers. Conditions: finite numbers, fewer than 2^62. -/
import Derived.Test.YtbkacmklgkgamaaVt
import Derived.Test.YtbkacmklgkgamaaVf
import Derived.Test.YtbkacmklgkgamaaApp
import Derived.Deep.QuietTactic
import Derived.BigQuiet
import Derived.WalkSpells
namespace Go.Proofs.Ytbkacmklgkgamaa
open Go.RowKit

attribute [local go_sem] run_store_fl

/-- How the program compares two numbers. -/
def cmpI (x y : Nat) : Int := if fval x < fval y then -1 else if fval y < fval x then 1 else 0
theorem cmpI_neg {x y : Nat} : decide (cmpI x y < 0) = decide (fval x < fval y) := by
  unfold cmpI
  split
  · rename_i h; simp [h]
  · rename_i h
    split <;> simp [h]
set_option maxRecDepth 100000 in
set_option maxHeartbeats 400000 in
theorem compareNumbers_any (x y : Nat) (hx : finW x = true) (hy : finW y = true) (w : World) : Calls Try.prog 43 #[.float .f32 x, .float .f32 y] w fun e w' => e = .returned (.int .i64 (cmpI x y)) ∧ w' = w := by
  have h1 := ord_lt hx hy
  have h2 := ord_gt hx hy
  unfold cmpI
  by_cases c1 : fval x < fval y
  · rw [decide_eq_true c1] at h1
    rw [if_pos c1]
    clear h2
    go_enter Try.func43, Try.ntmps43
    go_wp2
    go_ret
    exact ⟨rfl, rfl⟩
  · rw [decide_eq_false c1] at h1
    rw [if_neg c1]
    by_cases c2 : fval y < fval x
    · rw [decide_eq_true c2] at h2
      rw [if_pos c2]
      go_enter Try.func43, Try.ntmps43
      go_wp2
      go_ret
      exact ⟨rfl, rfl⟩
    · rw [decide_eq_false c2] at h2
      rw [if_neg c2]
      go_enter Try.func43, Try.ntmps43
      go_wp2
      go_ret
      exact ⟨rfl, rfl⟩

def tv (p : Nat × Nat) : Value := .float .f32 p.1
def FinAll (L : List (Nat × Nat)) : Prop := ∀ k, finW (el L k).1 = true
theorem FinAll.shuf {L M : List (Nat × Nat)} {a b : Nat} (h : FinAll L) (k : Shuf a b L M) : FinAll M := fun j => by
  by_cases c : j < a ∨ b ≤ j
  · rw [k.out c]; exact h j
  · exact k.all (fun x => finW x.1 = true) (fun i _ _ => h i) j (by omega) (by omega)
theorem tv_get {L : List (Nat × Nat)} {k : Nat} (h : k < L.length) : (L.map tv)[k]? = some (.float .f32 (el L k).1) := by
  rw [List.getElem?_map, List.getElem?_eq_getElem h]
  unfold el
  rw [List.getD_eq_getElem?_getD, List.getElem?_eq_getElem h]
  rfl
theorem own_cellF {w : World} {base g n c : Nat} {L : List (Nat × Nat)} (h : w.ownsRow base 50 1 (.slice (some ⟨g, 0, none⟩) n c) n (L.map tv)) {i : Nat} (hi : i < n) : w.cell? ⟨g, i, none⟩ = some (.float .f32 (el L i).1) := by
  have hl : L.length = n := by have := h.1; simpa using this
  rw [h.cellAt _ (by simp; omega)]
  exact tv_get (by omega)
theorem own_swp {w : World} {base g n c : Nat} {L : List (Nat × Nat)} (h : w.ownsRow base 50 1 (.slice (some ⟨g, 0, none⟩) n c) n (L.map tv)) (i j : Nat) :
    ((w.setCell ⟨g, i, none⟩ (.float .f32 (el L j).1)).setCell ⟨g, j, none⟩ (.float .f32 (el L i).1)).ownsRow base 50 1 (.slice (some ⟨g, 0, none⟩) n c) n ((swp L i j).map tv) ∧
    w.grownBy ((w.setCell ⟨g, i, none⟩ (.float .f32 (el L j).1)).setCell ⟨g, j, none⟩ (.float .f32 (el L i).1)) (some g) := by
  have h1 := h.stored i (.float .f32 (el L j).1)
  have h2 := h1.1.stored j (.float .f32 (el L i).1)
  refine ⟨?_, grown_trans' h1.2 h2.2⟩
  have h3 := h2.1
  unfold swp
  rw [List.map_set, List.map_set]
  exact h3
/-- What the sort's functions leave: the row in another order, and nothing else. -/
def SortPost (w : World) (base g n c a b : Nat) (L : List (Nat × Nat)) (Φ : List (Nat × Nat) → Prop) (e : Ending) (w' : World) : Prop :=
  e = .returned (.tuple #[]) ∧ ∃ M, Shuf a b L M ∧ Φ M ∧ w'.ownsRow base 50 1 (.slice (some ⟨g, 0, none⟩) n c) n (M.map tv) ∧ w.grownBy w' (some g)
set_option maxRecDepth 100000 in
set_option maxHeartbeats 1000000 in
theorem swapRange_any (base g n c s u t : Nat) (fn : Value) (L : List (Nat × Nat)) (w : World) (hn : n ≤ 1048576) (hO : w.ownsRow base 50 1 (.slice (some ⟨g, 0, none⟩) n c) n (L.map tv)) (hsu : s + t ≤ u) (hut : u + t ≤ n) :
    Calls Try.prog 81 #[.slice (some ⟨g, 0, none⟩) n c, .int .i64 (s : Int), .int .i64 (u : Int), .int .i64 (t : Int), fn] w (SortPost w base g n c s (u + t) L fun M => Exch L M s u t) := by
  have hl : L.length = n := by have := hO.1; simpa using this
  have HO := Lib.hid hO
  have HL := Lib.hid hl
  clear hO hl
  go_enter Try.func81, Try.ntmps81
  go_wp2
  go_loopw [10] (fun si wr => ∃ (i : Nat) (M : List (Nat × Nat)), si = .int .i64 (i : Int) ∧ i ≤ t ∧ Hid (Shuf s (u + t) L M) ∧ Hid (Exch L M s u i) ∧ Hid (wr.ownsRow base 50 1 (.slice (some ⟨g, 0, none⟩) n c) n (M.map tv)) ∧ Hid (w.grownBy wr (some g))) (fun si _ => t - (intOf si).toNat)
  case atStart => exact ⟨0, L, rfl, Nat.zero_le _, .refl, Exch.zero _ _ _, HO, grown_of_below (Below.refl _ _) _⟩
  case round =>
    clear HO
    obtain ⟨i, M, rfl, hi, hS, hE, hO, hG⟩ := hrel
    have HM : Hid (M.length = n) := by unfold Hid; rw [hS.out.len]; exact HL.out
    by_cases hit : i < t
    · obtain ⟨wo, hwo⟩ : ∃ x, x = wr := ⟨_, rfl⟩
      subst hwo
      obtain ⟨p, hp⟩ : ∃ p, s + i = p := ⟨_, rfl⟩
      obtain ⟨q, hq⟩ : ∃ q, u + i = q := ⟨_, rfl⟩
      have zp : (s : Int) + (i : Int) = (p : Int) := by omega
      have zq : (u : Int) + (i : Int) = (q : Int) := by omega
      have hpn : p < n := by omega
      have hqn : q < n := by omega
      have hpi : (p : Int) < (n : Int) := by omega
      have hqi : (q : Int) < (n : Int) := by omega
      have c1 := own_cellF hO.out hpn
      have c2 := own_cellF hO.out hqn
      have f1 : wo.frozen? ⟨g, p, none⟩ = false := hO.out.frozenAt _
      have f2 : wo.frozen? ⟨g, q, none⟩ = false := hO.out.frozenAt _
      have NX : Hid (Exch L (swp M p q) s u (i + 1)) := by rw [← hp, ← hq]; exact hE.out.step (by omega) (by rw [HM.out]; omega)
      have NS : Hid (Shuf s (u + t) L (swp M p q)) := .step hS.out (by omega) (by omega) (by omega) (by omega) (by rw [HM.out]; omega)
      have NO := Lib.hid (own_swp hO.out p q).1
      have NG := Lib.hid (grown_trans' hG.out (own_swp hO.out p q).2)
      clear hp hq
      go_wp2
      go_region
      go_wp2
      go_roundw
      case rel => exact ⟨i + 1, swp M p q, by go_num, by omega, NS, NX, NO.out, grown_drew NG.out⟩
      case measure => simp [intOf]; omega
    · obtain rfl : i = t := by omega
      go_wp2
      go_end0
      exact ⟨rfl, M, hS.out, hE.out, hO.out, hG.out⟩
def rotF (L : List (Nat × Nat)) (a m b p : Nat) : Nat × Nat := if a ≤ p ∧ p < a + (b - m) then el L (p + (m - a)) else if a + (b - m) ≤ p ∧ p < b then el L (p - (b - m)) else el L p
theorem rotF_start (L : List (Nat × Nat)) {a m b : Nat} (h1 : a ≤ m) (h2 : m ≤ b) : RotTo (rotF L a m b) L m (m - a) (b - m) := fun p => by
  unfold rotF
  rw [show m - (m - a) = a by omega, show m + (b - m) = b by omega]
set_option maxRecDepth 100000 in
set_option maxHeartbeats 1000000 in
theorem rotate_any (base g n c a m b : Nat) (fn : Value) (L : List (Nat × Nat)) (w : World) (hn : n ≤ 1048576) (hO : w.ownsRow base 50 1 (.slice (some ⟨g, 0, none⟩) n c) n (L.map tv)) (ham : a < m) (hmb : m < b) (hb : b ≤ n) :
    Calls Try.prog 79 #[.slice (some ⟨g, 0, none⟩) n c, .int .i64 (a : Int), .int .i64 (m : Int), .int .i64 (b : Int), fn] w (SortPost w base g n c a b L fun M => Rotd L M a m b) := by
  have hl : L.length = n := by have := hO.1; simpa using this
  obtain ⟨x, hx⟩ : ∃ x, m - a = x := ⟨_, rfl⟩
  obtain ⟨y, hy⟩ : ∃ y, b - m = y := ⟨_, rfl⟩
  have zx : (m : Int) - (a : Int) = (x : Int) := by omega
  have zy : (b : Int) - (m : Int) = (y : Int) := by omega
  have h0 := rotF_start L (Nat.le_of_lt ham) (Nat.le_of_lt hmb)
  rw [hx, hy] at h0
  have H0 := Lib.hid h0
  have HO := Lib.hid hO
  have HL := Lib.hid hl
  clear hO hl h0
  go_enter Try.func79, Try.ntmps79
  go_wp2
  go_loopw [10, 11] (fun si sj wr => ∃ (i j : Nat) (M : List (Nat × Nat)), si = .int .i64 (i : Int) ∧ sj = .int .i64 (j : Int) ∧ 1 ≤ i ∧ 1 ≤ j ∧ a + i ≤ m ∧ m + j ≤ b ∧ Hid (Shuf a b L M) ∧ Hid (RotTo (rotF L a m b) M m i j) ∧ Hid (wr.ownsRow base 50 1 (.slice (some ⟨g, 0, none⟩) n c) n (M.map tv)) ∧ Hid (w.grownBy wr (some g))) (fun si sj _ => (intOf si).toNat + (intOf sj).toNat)
  case atStart => exact ⟨x, y, L, rfl, rfl, by omega, by omega, by omega, by omega, .refl, H0, HO, grown_of_below (Below.refl _ _) _⟩
  case round =>
    clear HO H0
    obtain ⟨i, j, M, rfl, rfl, hi1, hj1, hi, hj, hS, hR, hO, hG⟩ := hrel
    obtain ⟨wo, hwo⟩ : ∃ q, q = wr := ⟨_, rfl⟩
    subst hwo
    obtain ⟨p, hp⟩ : ∃ p, m - i = p := ⟨_, rfl⟩
    have zp : (m : Int) - (i : Int) = (p : Int) := by omega
    have hRL : M.length = n := by rw [hS.out.len]; exact HL.out
    have HRL := Lib.hid hRL
    clear hRL
    by_cases hij : i = j
    · obtain rfl := hij
      have SC := Lib.hid (swapRange_any base g n c p m i fn M wo hn hO.out (by omega) (by omega))
      go_wp2_with fail
      refine SC.out.mono ?_
      rintro e w1 ⟨rfl, M', hS1, hE1, hO1, hG1⟩
      have H1 : Hid (Shuf a b L M') := hS.out.trans (hS1.mono (by omega) (by omega) (by rw [HRL.out]; omega))
      have H2 : Hid (Rotd L M' a m b) := fun q => by
        have := hR.out.last (by omega) (M' := M') (by rw [hp]; exact hE1) q
        rw [← this]
        rfl
      have H3 := Lib.hid hO1
      have H4 := Lib.hid (grown_trans' hG.out hG1)
      clear hS1 hE1 hO1 hG1
      go_wp2
      go_end0
      exact ⟨rfl, M', H1.out, H2.out, H3.out, H4.out⟩
    · have hij' : decide (i = j) = false := by simp; exact hij
      by_cases hlt : j < i
      · have hlti : (j : Int) < (i : Int) := by omega
        have SC := Lib.hid (swapRange_any base g n c p m j fn M wo hn hO.out (by omega) (by omega))
        have zd : (i : Int) - (j : Int) = ((i - j : Nat) : Int) := by omega
        obtain ⟨d, hd⟩ : ∃ d, i - j = d := ⟨_, rfl⟩
        rw [hd] at zd
        go_wp2_with fail
        refine SC.out.mono ?_
        rintro e w1 ⟨rfl, M', hS1, hE1, hO1, hG1⟩
        have H1 : Hid (Shuf a b L M') := hS.out.trans (hS1.mono (by omega) (by omega) (by rw [HRL.out]; omega))
        have H2 : Hid (RotTo (rotF L a m b) M' m d j) := by
          have := hR.out.left hlt (by omega) (M' := M') (by rw [hp]; exact hE1)
          rwa [hd] at this
        have H3 := Lib.hid hO1
        have H4 := Lib.hid (grown_trans' hG.out hG1)
        clear hS1 hE1 hO1 hG1
        go_wp2
        go_roundw
        case rel => exact ⟨d, j, M', rfl, rfl, by omega, by omega, by omega, by omega, H1, H2, H3.out, H4.out⟩
        case measure => simp [intOf]; omega
      · have hlti : (i : Int) < (j : Int) := by omega
        have hlti2 : decide (j < i) = false := by simp; omega
        obtain ⟨u, hu⟩ : ∃ u, m + j - i = u := ⟨_, rfl⟩
        have zu : (m : Int) + (j : Int) - (i : Int) = (u : Int) := by omega
        have SC := Lib.hid (swapRange_any base g n c p u i fn M wo hn hO.out (by omega) (by omega))
        have zd : (j : Int) - (i : Int) = ((j - i : Nat) : Int) := by omega
        obtain ⟨d, hd⟩ : ∃ d, j - i = d := ⟨_, rfl⟩
        rw [hd] at zd
        go_wp2_with fail
        refine SC.out.mono ?_
        rintro e w1 ⟨rfl, M', hS1, hE1, hO1, hG1⟩
        have H1 : Hid (Shuf a b L M') := hS.out.trans (hS1.mono (by omega) (by omega) (by rw [HRL.out]; omega))
        have H2 : Hid (RotTo (rotF L a m b) M' m i d) := by
          have := hR.out.right (by omega) (by omega) (M' := M') (by rw [hp, hu]; exact hE1)
          rwa [hd] at this
        have H3 := Lib.hid hO1
        have H4 := Lib.hid (grown_trans' hG.out hG1)
        clear hS1 hE1 hO1 hG1
        go_wp2
        go_roundw
        case rel => exact ⟨i, d, M', rfl, rfl, by omega, by omega, by omega, by omega, H1, H2, H3.out, H4.out⟩
        case measure => simp [intOf]; omega
set_option maxRecDepth 100000 in
set_option maxHeartbeats 2000000 in
theorem insertion_any (base g n c a b : Nat) (L : List (Nat × Nat)) (w : World) (hn : n ≤ 1048576) (hO : w.ownsRow base 50 1 (.slice (some ⟨g, 0, none⟩) n c) n (L.map tv)) (hab : a ≤ b) (hb : b ≤ n) (hF : FinAll L) (hT : Tr L a b) :
    Calls Try.prog 70 #[.slice (some ⟨g, 0, none⟩) n c, .int .i64 (a : Int), .int .i64 (b : Int), .func (.func 43) #[] #[]] w (SortPost w base g n c a b L fun M => Srt fval M a b) := by
  have hl : L.length = n := by have := hO.1; simpa using this
  have HO := Lib.hid hO
  have HL := Lib.hid hl
  have HF := Lib.hid hF
  have HT := Lib.hid hT
  have S0 : Hid (Srt fval L a (a + 1)) := Srt.one L (Nat.le_refl _)
  clear hO hl hF hT
  go_enter Try.func70, Try.ntmps70
  go_wp2
  go_loopw [8] (fun si wr => ∃ (i : Nat) (M : List (Nat × Nat)), si = .int .i64 (i : Int) ∧ a < i ∧ i ≤ b + 1 ∧ (i ≤ b ∨ (i = a + 1 ∧ Hid (M = L))) ∧ Hid (Shuf a i L M ∨ M = L) ∧ Hid (Srt fval M a i) ∧ Hid (∀ q, i ≤ q → el M q = el L q) ∧ Hid (wr.ownsRow base 50 1 (.slice (some ⟨g, 0, none⟩) n c) n (M.map tv)) ∧ Hid (w.grownBy wr (some g))) (fun si _ => b + 1 - (intOf si).toNat)
  case atStart => exact ⟨a + 1, L, by go_num, by omega, by omega, .inr ⟨rfl, rfl⟩, .inr rfl, S0, fun q _ => rfl, HO, grown_of_below (Below.refl _ _) _⟩
  case round =>
    clear HO S0
    obtain ⟨i, M, rfl, hi, hib, hcase, hS, hSrt, hout, hO, hG⟩ := hrel
    obtain ⟨wo, hwo⟩ : ∃ q, q = wr := ⟨_, rfl⟩
    subst hwo
    have HML : Hid (M.length = n) := by
      rcases hS.out with h | h
      · unfold Hid; rw [h.len]; exact HL.out
      · rw [Hid, h]; exact HL.out
    by_cases hlt : i < b
    · have hlti : (i : Int) < (b : Int) := by omega
      have hFM : Hid (FinAll M) := by
        rcases hS.out with h | h
        · exact HF.out.shuf h
        · exact h ▸ HF.out
      have hI : Hid (Ins (K := fval) M a i i) := Ins.start hSrt.out (fun p h1 h2 => by
        rw [hout.out i (Nat.le_refl _)]
        rcases hS.out with h | h
        · exact h.all (fun x => x.2 < (el L i).2) (fun k k1 k2 => HT.out k i k1 k2 hlt) p h1 h2
        · rw [h]; exact HT.out p i h1 h2 hlt)
      have hS0 : Hid (Shuf a (i + 1) L M) := by
        rcases hS.out with h | h
        · exact h.mono (Nat.le_refl _) (by omega) (by rw [HL.out]; omega)
        · exact h ▸ .refl
      have hout0 : Hid (∀ q, i + 1 ≤ q → el M q = el L q) := fun q hq => hout.out q (by omega)
      clear hcase hS hSrt hout
      go_wp2
      go_loopw [9] (fun sj wr => ∃ (j : Nat) (N : List (Nat × Nat)), sj = .int .i64 (j : Int) ∧ a ≤ j ∧ j ≤ i ∧ Hid (Shuf a (i + 1) L N) ∧ Hid (FinAll N) ∧ Hid (Ins (K := fval) N a i j) ∧ Hid (∀ q, i + 1 ≤ q → el N q = el L q) ∧ Hid (wr.ownsRow base 50 1 (.slice (some ⟨g, 0, none⟩) n c) n (N.map tv)) ∧ Hid (w.grownBy wr (some g))) (fun sj _ => (intOf sj).toNat)
      case atStart => exact ⟨i, M, rfl, by omega, Nat.le_refl _, hS0, hFM, hI, hout0, hO, hG⟩
      case round =>
        clear hS0 hFM hI hout0 hO hG HML
        obtain ⟨j, N, rfl, haj, hji, hS, hFN, hI, hout, hO, hG⟩ := hrel
        obtain ⟨wi, hwi⟩ : ∃ q, q = wr := ⟨_, rfl⟩
        subst hwi
        have HNL : Hid (N.length = n) := by unfold Hid; rw [hS.out.len]; exact HL.out
        by_cases hja : a < j
        · have hjai : (a : Int) < (j : Int) := by omega
          have zj : (j : Int) - 1 = ((j - 1 : Nat) : Int) := by omega
          obtain ⟨p, hp⟩ : ∃ p, j - 1 = p := ⟨_, rfl⟩
          rw [hp] at zj
          have hjn : j < n := by omega
          have hpn : p < n := by omega
          have hjni : (j : Int) < (n : Int) := by omega
          have hpni : (p : Int) < (n : Int) := by omega
          have c1 := own_cellF hO.out hjn
          have c2 := own_cellF hO.out hpn
          have CC := Lib.hid (fun w => compareNumbers_any (el N j).1 (el N p).1 (hFN.out j) (hFN.out p) w)
          obtain ⟨q, hq⟩ : ∃ q, cmpI (el N j).1 (el N p).1 = q := ⟨_, rfl⟩
          have hc : decide (q < 0) = decide (fval (el N j).1 < fval (el N p).1) := by rw [← hq]; exact cmpI_neg
          rw [hq] at CC
          clear hq
          by_cases hless : fval (el N j).1 < fval (el N p).1
          · rw [decide_eq_true hless] at hc
            have f1 : wi.frozen? ⟨g, j, none⟩ = false := hO.out.frozenAt _
            have f2 : wi.frozen? ⟨g, p, none⟩ = false := hO.out.frozenAt _
            have NI : Hid (Ins (K := fval) (swp N j p) a i p) := by rw [← hp]; exact hI.out.step hja hji (by rw [HNL.out]; omega) (by rw [hp]; exact hless)
            have NS : Hid (Shuf a (i + 1) L (swp N j p)) := .step hS.out (by omega) (by omega) (by omega) (by omega) (by rw [HNL.out]; omega)
            have NF : Hid (FinAll (swp N j p)) := hFN.out.shuf (.step .refl (Nat.zero_le j) hjn (Nat.zero_le p) hpn (by rw [HNL.out]; omega))
            have NQ : Hid (∀ q, i + 1 ≤ q → el (swp N j p) q = el L q) := fun q hq => by
              rw [swp_el (by rw [HNL.out]; omega) (by rw [HNL.out]; omega), if_neg (by omega), if_neg (by omega)]
              exact hout.out q hq
            have NO := Lib.hid (own_swp hO.out j p).1
            have NG := Lib.hid (grown_trans' hG.out (own_swp hO.out j p).2)
            clear hp hless hI hS hFN hout hO hG
            go_wp2
            go_quiet ((go_at_call 43; exact Calls.quiet_of_same (CC.out _)))
            go_wp2
            generalize hw : World.drewN wi _ = w1
            have d1 : w1.cell? ⟨g, j, none⟩ = some (.float .f32 (el N j).1) := by rw [← hw]; exact c1
            have d2 : w1.cell? ⟨g, p, none⟩ = some (.float .f32 (el N p).1) := by rw [← hw]; exact c2
            have g1 : w1.frozen? ⟨g, j, none⟩ = false := by rw [← hw]; exact f1
            have g2 : w1.frozen? ⟨g, p, none⟩ = false := by rw [← hw]; exact f2
            have WO : Hid (((w1.setCell ⟨g, j, none⟩ (.float .f32 (el N p).1)).setCell ⟨g, p, none⟩ (.float .f32 (el N j).1)).ownsRow base 50 1 (.slice (some ⟨g, 0, none⟩) n c) n ((swp N j p).map tv)) := by rw [← hw]; exact NO.out
            have WG : Hid (w.grownBy ((w1.setCell ⟨g, j, none⟩ (.float .f32 (el N p).1)).setCell ⟨g, p, none⟩ (.float .f32 (el N j).1)) (some g)) := by rw [← hw]; exact ⟨NG.out.os, NG.out.tape, NG.out.output, NG.out.size, NG.out.block⟩
            clear c1 c2 f1 f2 NO NG hw CC
            go_region
            go_wp2
            go_roundw
            case rel => exact ⟨p, swp N j p, rfl, by omega, by omega, NS, NF, NI, NQ, WO.out, grown_drew WG.out⟩
            case measure => simp [intOf]; omega
          · rw [decide_eq_false hless] at hc
            have NSrt : Hid (Srt fval N a (i + 1)) := hI.out.stop haj (.inr (by rw [hp]; exact hless)) hji
            clear hp hless hI
            go_wp2
            go_quiet ((go_at_call 43; exact Calls.quiet_of_same (CC.out _)))
            go_wp2
            generalize hw : World.drewN wi _ = w1
            have WO : Hid (w1.ownsRow base 50 1 (.slice (some ⟨g, 0, none⟩) n c) n (N.map tv)) := by rw [← hw]; exact hO.out
            have WG : Hid (w.grownBy w1 (some g)) := by rw [← hw]; exact ⟨hG.out.os, hG.out.tape, hG.out.output, hG.out.size, hG.out.block⟩
            clear c1 c2 hO hG hw CC
            go_roundw
            case rel => exact ⟨i + 1, N, by go_num, by omega, by omega, .inl (by omega), .inl hS.out, NSrt, hout, WO, WG⟩
            case measure => simp [intOf]; omega
        · obtain rfl : j = a := by omega
          have hjd : decide (j < j) = false := by simp
          have NSrt : Hid (Srt fval N j (i + 1)) := hI.out.stop haj (.inl rfl) hji
          clear hI
          go_wp2
          go_quiet (fail)
          go_wp2
          generalize hw : World.drewN wi _ = w1
          have WO : Hid (w1.ownsRow base 50 1 (.slice (some ⟨g, 0, none⟩) n c) n (N.map tv)) := by rw [← hw]; exact hO.out
          have WG : Hid (w.grownBy w1 (some g)) := by rw [← hw]; exact ⟨hG.out.os, hG.out.tape, hG.out.output, hG.out.size, hG.out.block⟩
          clear hO hG hw
          go_roundw
          case rel => exact ⟨i + 1, N, by go_num, by omega, by omega, .inl (by omega), .inl hS.out, NSrt, hout, WO, WG⟩
          case measure => simp [intOf]; omega
    · have hS2 : Hid (Shuf a b L M) := by
        rcases hcase with h | ⟨_, h⟩
        · obtain rfl : i = b := by omega
          rcases hS.out with h | h
          · exact h
          · exact h ▸ .refl
        · exact h.out ▸ .refl
      have hS3 : Hid (Srt fval M a b) := hSrt.out.sub (Nat.le_refl _) (by omega)
      clear hcase hS hSrt
      go_wp2
      go_end0
      exact ⟨rfl, M, hS2.out, hS3.out, hO.out, hG.out⟩
end Go.Proofs.Ytbkacmklgkgamaa

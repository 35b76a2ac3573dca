/- Walks: within, WordAt: the word with a number among all of a length. Conditions: lists as the reference draws them, lengths of 1 to 24, numbers up to 4096. Walks: areWithin and isIndexWord: a word of indices of the list is one. Conditions: lists of at most 4 maps, words of at most 24 letters. -/
import Derived.Test.YtbpgbplepebcjaaMq
import Derived.Test.YtbpgbplepebcjaaSl
namespace Go.Proofs.Ytbpgbplepebcjaa
open Go.RowKit
open Num Quick
attribute [local go_sem] run_store_fl run_store_cx

def nv (d : Nat) : Value := .int .i64 (d : Int)
/-- The word with number k of the words of l letters out of N. -/
def dgs (N l k : Nat) : List Nat := (List.range l).map fun j => k / N ^ (l - 1 - j) % N
/-- .. from the letter i on, with zeros before. -/
def dgsFrom (N l k i : Nat) : List Nat := (List.range l).map fun j => if i ≤ j then k / N ^ (l - 1 - j) % N else 0
theorem dgs_length (N l k : Nat) : (dgs N l k).length = l := by simp [dgs]
theorem dgsFrom_length (N l k i : Nat) : (dgsFrom N l k i).length = l := by simp [dgsFrom]
theorem dgsFrom_all (N l k : Nat) : dgsFrom N l k 0 = dgs N l k := by simp [dgsFrom, dgs]
theorem dgsFrom_none (N l k : Nat) : dgsFrom N l k l = List.replicate l 0 := by
  apply List.ext_getElem
  · simp [dgsFrom]
  · intro j h1 h2
    have : ¬ l ≤ j := by simp [dgsFrom] at h1; omega
    simp [dgsFrom, this]
theorem dgsFrom_step (N l k m : Nat) (hm : m + 1 ≤ l) : (dgsFrom N l k (m + 1)).set m (k / N ^ (l - (m + 1)) % N) = dgsFrom N l k m := by
  apply List.ext_getElem
  · simp [dgsFrom]
  · intro j h1 h2
    rw [List.getElem_set]
    by_cases e : m = j
    · subst e
      simp [dgsFrom, Nat.sub_sub, Nat.add_comm]
    · rw [if_neg e]
      have : (m + 1 ≤ j) = (m ≤ j) := by simp; omega
      simp [dgsFrom, this]
theorem quot_step (N l k m : Nat) (hm : m + 1 ≤ l) : k / N ^ (l - (m + 1)) / N = k / N ^ (l - m) := by
  rw [Nat.div_div_eq_div_mul, ← Nat.pow_succ]
  congr 2
  omega
theorem dgs_lt {N l k : Nat} (hN : 0 < N) : ∀ d ∈ dgs N l k, d < N := by
  intro d hd
  simp only [dgs, List.mem_map] at hd
  obtain ⟨j, _, rfl⟩ := hd
  exact Nat.mod_lt _ hN

theorem made_nv (n : Nat) : (madeCells (Value.int .i64 0).cells (n * 1)).toList = (List.replicate n 0).map nv := by
  have : ∀ v : Value, (madeCells #[v] (n * 1)).toList = List.replicate n v := by
    intro v
    unfold madeCells
    refine List.ext_getElem (by simp) fun i h1 h2 => ?_
    simp [Nat.mod_one]
  rw [List.map_replicate]
  exact this _
theorem nv_get {D : List Nat} {l j : Nat} (h : D.length = l) (hj : j < l) : (D.map nv)[j]? = some (.int .i64 ((D.getD j 0 : Nat) : Int)) := by
  have hkl : j < D.length := by omega
  rw [List.getElem?_map, List.getElem?_eq_getElem hkl, List.getD_eq_getElem?_getD, List.getElem?_eq_getElem hkl]; rfl
set_option maxRecDepth 100000 in
theorem within_ok (x a b : Int) (h1 : a ≤ x) (h2 : x ≤ b) (w : World) : Calls Try.prog 67 #[.int .i64 x, .int .i64 a, .int .i64 b] w fun e w' => e = .returned (.bool true) ∧ w' = w := by
  go_enter Try.func67, Try.ntmps67
  go_wp2
  go_ret
  simp
set_option maxRecDepth 100000 in
set_option maxHeartbeats 4000000 in
theorem wordAt_w (L : List Sm) (N l k : Nat) (A : Option Addr) (c : Nat) (w : World) (hL : L.length = N) (hN : N = 1 ∨ N = 2 ∨ N = 4) (hok : ∀ x ∈ L, x.ok N) (hR : Rd w w.heap.size 4 A N (smCells L)) (hl1 : 1 ≤ l) (hl : l ≤ 24) (hk : k ≤ 4096) :
    Calls Try.prog 21 #[.slice A N c, .int .i64 (k : Int), .int .i64 (l : Int)] w fun e w' => (k / N ^ l = 0 → ∃ g, w.heap.size ≤ g ∧ e = .returned (.tuple #[.slice (some ⟨g, 0, none⟩) l l, .bool true]) ∧ w'.ownsRow w.heap.size 2 1 (.slice (some ⟨g, 0, none⟩) l l) l ((dgs N l k).map nv)) ∧
      (0 < k / N ^ l → e = .returned (.tuple #[.slice none 0 0, .bool false])) ∧ Below w.heap.size w w' := by
  obtain ⟨i0, hi, hz0, hz1, hz2⟩ := info_parts intInfo
  have AS := Lib.hid (areSmalls_ok L N A c w hL hN hok hR)
  have hN1 : 1 ≤ N := by omega
  have WI := Lib.hid (fun w => within_ok (l : Int) 0 24 (by omega) (by omega) w)
  have hk0 : (0 : Int) ≤ (k : Int) := by omega
  have hNI : (N : Int) ≠ 0 := by omega
  have HNN := Lib.hid hN1
  clear hL hN hok hR hN1
  go_enter Try.func21, Try.ntmps21
  go_wp2_with fail
  refine AS.out.mono ?_
  rintro e w1 ⟨rfl, hb1⟩
  have B1 := Lib.hid hb1
  have hs1 := hb1.size
  clear hb1 AS
  go_wp2_with fail
  refine (WI.out _).mono ?_
  rintro e w2 ⟨rfl, hw⟩
  obtain rfl := hw.symm
  clear hw WI
  go_wp2_with (at_make; refine wpList_make_full _ rfl _ _ _ rfl w1.heap.size 2 i0 (.int .i64 0) 1 Try.underlying48 hi hz0 hz1 .i64 .i64 l l l rfl rfl rfl rfl (by rw [hz2]; omega) (by unfold maxLen; omega) (Nat.le_refl _) ?_; intro w2 ho2 hg2)
  rw [made_nv, ← dgsFrom_none N l k] at ho2
  have O2 := Lib.hid ho2
  have B2 : Hid (Below w1.heap.size w1 w2) := Lib.hid (below_of_grown (B := w1.heap.size) hg2 (Nat.le_refl _) (by simp))
  clear ho2 hg2
  go_wp2
  go_loopw [1, 9] (fun s1 s9 wr => ∃ (q : Int) (i x : Nat), s9 = .int .i64 q ∧ q + 1 = (i : Int) ∧ i ≤ l ∧ s1 = .int .i64 (x : Int) ∧ x ≤ 4096 ∧ Hid (x = k / N ^ (l - i)) ∧ Hid (wr.ownsRow w1.heap.size 2 1 (.slice (some ⟨w1.heap.size, 0, none⟩) l l) l ((dgsFrom N l k i).map nv)) ∧ Hid (Below w1.heap.size w1 wr)) (fun _ s9 _ => (intOf s9 + 1).toNat)
  case atStart => exact ⟨_, l, k, rfl, by go_num, Nat.le_refl _, rfl, hk, Lib.hid (by simp), O2, B2⟩
  case round =>
    obtain ⟨q, i, x, rfl, hq, hil, rfl, hx4, HX, HO, HB⟩ := hrel
    clear O2 B2
    by_cases h0 : i = 0
    · have hq0 : q < 0 := by omega
      subst h0
      have HXe : Hid (x = k / N ^ l) := HX
      have OE : Hid (wr.ownsRow w1.heap.size 2 1 (.slice (some ⟨w1.heap.size, 0, none⟩) l l) l ((dgs N l k).map nv)) := by rw [← dgsFrom_all]; exact HO
      have BE := Lib.hid (B1.out.trans (HB.out.mono B1.out.size))
      clear HX HO HB
      by_cases hx : x = 0
      · subst hx
        go_wp2
        go_ret2
        exact ⟨fun _ => ⟨_, hs1, rfl, own_base OE.out hs1⟩, fun h => absurd HXe.out (by omega), BE.out⟩
      · have hxp : (0 : Int) < (x : Int) := by omega
        go_wp2
        go_ret2
        exact ⟨fun h => absurd HXe.out (by omega), fun _ => rfl, BE.out⟩
    · obtain ⟨m, hm⟩ : ∃ m, i = m + 1 := ⟨i - 1, by omega⟩
      obtain rfl : q = (m : Int) := by omega
      have hml : m < l := by omega
      have hmI : (m : Int) < (l : Int) := by omega
      obtain ⟨d, hd⟩ : ∃ d, x % N = d := ⟨_, rfl⟩
      obtain ⟨y, hy⟩ : ∃ y, x / N = y := ⟨_, rfl⟩
      have e1 : Int.tmod (x : Int) (N : Int) = (d : Int) := by rw [← hd]; rfl
      have e2 : Int.tdiv (x : Int) (N : Int) = (y : Int) := by rw [← hy]; rfl
      have HY : Hid (y = k / N ^ (l - m)) := Lib.hid (by rw [← hy, HX.out, hm, quot_step N l k m (by omega)])
      have HD : Hid (d = k / N ^ (l - (m + 1)) % N) := Lib.hid (by rw [← hd, HX.out, hm])
      have f1 : m < ((dgsFrom N l k i).map nv).length := by rw [List.length_map, dgsFrom_length]; exact hml
      have cA : wr.cell? ⟨w1.heap.size, m, none⟩ = some ((dgsFrom N l k i).map nv)[m] := by rw [HO.out.cellAt _ (by omega), List.getElem?_eq_getElem f1]
      have fA : wr.frozen? ⟨w1.heap.size, m, none⟩ = false := HO.out.frozenAt _
      obtain ⟨ho2, hg2⟩ := HO.out.stored m (nv d)
      have O5 : Hid ((wr.setCell ⟨w1.heap.size, m, none⟩ (.int .i64 (d : Int))).ownsRow w1.heap.size 2 1 (.slice (some ⟨w1.heap.size, 0, none⟩) l l) l ((dgsFrom N l k m).map nv)) := by
        rw [← dgsFrom_step N l k m (by omega), List.map_set, ← HD.out, ← hm]; exact Lib.hid ho2
      have B5 : Hid (Below w1.heap.size w1 (wr.setCell ⟨w1.heap.size, m, none⟩ (.int .i64 (d : Int)))) := Lib.hid (HB.out.setCell (Nat.le_refl _) _)
      have hy4 : y ≤ 4096 := by rw [← hy]; exact Nat.le_trans (Nat.div_le_self _ _) hx4
      clear ho2 hg2 hd hy HO HB HX
      generalize ((dgsFrom N l k i).map nv)[m] = old at *
      go_wp2
      go_roundw
      case rel => exact ⟨_, m, y, rfl, by go_num, by omega, by go_num, hy4, HY, O5, B5⟩
      case measure => simp [intOf]
end Go.Proofs.Ytbpgbplepebcjaa
namespace Go.Proofs.Ytbpgbplepebcjaa
open Go.RowKit

set_option maxRecDepth 100000 in
theorem indexNone_w (A : Option Addr) (n c : Nat) (D : List Nat) (p1 p2 : Addr) (w : World) (hn : n ≤ 1048576) (hl : D.length = n) (hA : Rd w w.heap.size 1 A n (D.map nv))
    (hp : ∀ x ∈ D, Calls Try.prog 116 #[.int .i64 (x : Int), .pointer (some p1), .pointer (some p2)] w fun e w' => e = .returned (.bool false) ∧ w' = w) :
    Calls Try.prog 126 #[.slice A n c, .func (.func 116) #[] #[.pointer (some p1), .pointer (some p2)]] w fun e w' => e = .returned (.int .i64 (-1)) ∧ w' = w := by
  have HA := Lib.hid hA
  have HL := Lib.hid hl
  have HPP := Lib.hid hp
  clear hA hl hp
  go_enter Try.func126, Try.ntmps126
  go_wp2
  go_loop [8] (fun si => ∃ k : Nat, k ≤ n ∧ si = .int .i64 k) (fun i => n - (intOf i).toNat)
  case atStart => exact ⟨0, Nat.zero_le _, rfl⟩
  case round =>
    obtain ⟨k, hk, rfl⟩ := hrel
    by_cases hlt : k < n
    · obtain ⟨b, off, rfl, hbb, hc⟩ := HA.out.2 (by omega)
      have cY := hc k _ (nv_get HL.out hlt)
      have PY := Lib.hid (HPP.out (D.getD k 0) (by
        have hkl : k < D.length := by rw [HL.out]; exact hlt
        rw [List.getD_eq_getElem?_getD, List.getElem?_eq_getElem hkl]
        exact List.getElem_mem hkl))
      clear hc
      generalize D.getD k 0 = y at *
      have hkI : (k : Int) < (n : Int) := Int.ofNat_lt.mpr hlt
      go_wp2_with (go_at_call 116; refine PY.out.mono ?_; rintro e w5 ⟨rfl, hw5⟩; obtain rfl := hw5.symm)
      go_round
      case rel => exact ⟨k + 1, by omega, by go_num⟩
      case measure => simp [intOf]; omega
    · obtain rfl : k = n := by omega
      go_wp2
      go_ret
      simp
set_option maxRecDepth 100000 in
theorem containsNone_w (A : Option Addr) (n c : Nat) (D : List Nat) (p1 p2 : Addr) (w : World) (hn : n ≤ 1048576) (hl : D.length = n) (hA : Rd w w.heap.size 1 A n (D.map nv))
    (hp : ∀ x ∈ D, Calls Try.prog 116 #[.int .i64 (x : Int), .pointer (some p1), .pointer (some p2)] w fun e w' => e = .returned (.bool false) ∧ w' = w) :
    Calls Try.prog 115 #[.slice A n c, .func (.func 116) #[] #[.pointer (some p1), .pointer (some p2)]] w fun e w' => e = .returned (.bool false) ∧ w' = w := by
  have IC := Lib.hid (indexNone_w A n c D p1 p2 w hn hl hA hp)
  clear hl hA hp
  go_enter Try.func115, Try.ntmps115
  go_wp2_with fail
  refine IC.out.mono ?_
  rintro e w1 ⟨rfl, rfl⟩
  go_wp2
  go_ret
  simp
set_option maxRecDepth 100000 in
theorem areWithin_w (A : Option Addr) (n c N : Nat) (D : List Nat) (w : World) (hn : n ≤ 1048576) (hl : D.length = n) (hA : Rd w w.heap.size 1 A n (D.map nv)) (hD : ∀ x ∈ D, x < N) (hN : 1 ≤ N) (hN4 : N ≤ 4) :
    Calls Try.prog 98 #[.slice A n c, .int .i64 0, .int .i64 ((N : Int) - 1)] w fun e w' => e = .returned (.bool true) ∧ Below w.heap.size w w' := by
  obtain ⟨m, hm⟩ : ∃ m : Int, (N : Int) - 1 = m := ⟨_, rfl⟩
  rw [hm]
  have HD := Lib.hid hD
  have HA := Lib.hid hA
  have HL := Lib.hid hl
  have HM := Lib.hid hm
  clear hD hA hl hm hN hN4
  have hb0 : ∀ o o', Below w.heap.size w ((w.alloc o).alloc o') := fun o o' => ((Below.refl _ _).alloc (Nat.le_refl _) _).alloc (by simp) _
  have H0 := Lib.hid hb0
  have CC : Hid (∀ o o' x, o = Obj.cells #[.int .i64 0] 2 → o' = Obj.cells #[.int .i64 m] 2 → x ∈ D → Calls Try.prog 116 #[.int .i64 (x : Int), .pointer (some ⟨w.heap.size, 0, none⟩), .pointer (some ⟨w.heap.size + 1, 0, none⟩)] ((w.alloc o).alloc o') fun e w' => e = .returned (.bool false) ∧ w' = ((w.alloc o).alloc o')) := by
    refine Lib.hid ?_
    rintro o o' x rfl rfl hx
    have WI := Lib.hid (fun w => within_ok (x : Int) 0 m (by omega) (by have := HD.out x hx; have := HM.out; omega) w)
    have b0 : Blk ((w.alloc (.cells #[.int .i64 0] 2)).alloc (.cells #[.int .i64 m] 2)) w.heap.size 2 #[.int .i64 0] := (Blk.new w _ _).alloc _
    have b1 : Blk ((w.alloc (.cells #[.int .i64 0] 2)).alloc (.cells #[.int .i64 m] 2)) (w.heap.size + 1) 2 #[.int .i64 m] := by
      have := Blk.new (w.alloc (.cells #[.int .i64 0] 2)) 2 #[.int .i64 m]
      simpa using this
    have c0 := b0.cell 0
    have c1 := b1.cell 0
    generalize ((w.alloc (.cells #[.int .i64 0] 2)).alloc (.cells #[.int .i64 m] 2)) = w2 at *
    clear b0 b1 hx
    simp at c0 c1
    go_enter Try.func116, Try.ntmps116
    go_wp2_with fail
    refine (WI.out _).mono ?_
    rintro e w3 ⟨rfl, rfl⟩
    go_wp2
    go_ret
    simp
  have KC := Lib.hid (fun o o' h h' => containsNone_w A n c D ⟨w.heap.size, 0, none⟩ ⟨w.heap.size + 1, 0, none⟩ _ hn HL.out ((HA.out.below (H0.out o o')).more (H0.out o o').size) (fun x hx => CC.out o o' x h h' hx))
  clear hb0 CC
  go_enter Try.func98, Try.ntmps98
  go_wp2_with fail
  refine (KC.out _ _ rfl rfl).mono ?_
  rintro e w1 ⟨rfl, rfl⟩
  go_wp2
  go_ret
  exact ⟨rfl, H0.out _ _⟩
set_option maxRecDepth 100000 in
theorem isIndexWord_w (AL A : Option Addr) (cL n c N : Nat) (D : List Nat) (w : World) (hn : n ≤ 24) (hl : D.length = n) (hA : Rd w w.heap.size 1 A n (D.map nv)) (hD : ∀ x ∈ D, x < N) (hN : 1 ≤ N) (hN4 : N ≤ 4) :
    Calls Try.prog 68 #[.slice AL N cL, .slice A n c] w fun e w' => e = .returned (.bool true) ∧ Below w.heap.size w w' := by
  have AC := Lib.hid (areWithin_w A n c N D w (by omega) hl hA hD hN hN4)
  have hnI : (n : Int) ≤ 24 := by omega
  clear hl hA hD
  go_enter Try.func68, Try.ntmps68
  go_wp2_with fail
  refine AC.out.mono ?_
  rintro e w1 ⟨rfl, hb⟩
  go_wp2
  go_ret
  exact ⟨rfl, hb⟩
end Go.Proofs.Ytbpgbplepebcjaa

/- Walks: whether shapes are the same, by the program, where they are. Conditions: lists shorter than 2^63. -/
import Derived.Test.YtbkacmklgkgamaaQb
import Derived.BigQuiet
namespace Go.Proofs.Ytbkacmklgkgamaa
open Go.RowKit

set_option maxRecDepth 100000 in
set_option maxHeartbeats 400000 in
theorem equalB_same (A A' : Option Addr) (n c c' B : Nat) (xs : List Bool) (w : World) (hn : n ≤ maxLen) (hB : B ≤ w.heap.size)
    (hA : Rd w B 1 A n (xs.map bv)) (hA' : Rd w B 1 A' n (xs.map bv)) :
    Calls Try.prog 52 #[.slice A n c, .slice A' n c'] w fun e w' => e = .returned (.bool true) ∧ Below w.heap.size w w' := by
  unfold maxLen at hn
  have hl : xs.length = n := by have := hA.len; simpa using this
  go_enter Try.func52, Try.ntmps52
  go_wp2
  go_loopw [13] (fun i wr => ∃ k : Nat, k ≤ n ∧ i = .int .i64 k ∧ Below w.heap.size w wr) (fun i _ => n - (intOf i).toNat)
  case atStart => exact ⟨0, Nat.zero_le _, rfl, Below.refl _ _⟩
  case round =>
    obtain ⟨k, hk, rfl, hb⟩ := hrel
    by_cases hlt : k < n
    · obtain ⟨b, off, rfl, hbb, hc⟩ := hA.2 (by omega)
      obtain ⟨b', off', rfl, hbb', hc'⟩ := hA'.2 (by omega)
      have hkl : k < xs.length := by omega
      have ex : (xs.map bv)[k]? = some (.bool xs[k]) := by rw [List.getElem?_map, List.getElem?_eq_getElem hkl]; rfl
      have c1 : wr.cell? ⟨b, off + k, none⟩ = some (.bool xs[k]) := (hb.cell (show b < w.heap.size by omega)).trans (hc _ _ ex)
      have c3 : wr.cell? ⟨b', off' + k, none⟩ = some (.bool xs[k]) := (hb.cell (show b' < w.heap.size by omega)).trans (hc' _ _ ex)
      clear hc hc' ex
      generalize xs[k] = p at *
      have Hb := Lib.hid hb
      have hk0 : (0 : Int) ≤ (k : Int) := by omega
      have hk1 : (k : Int) < (n : Int) := by omega
      go_wp2
      go_quiet (fail)
      go_wp2
      go_roundw
      case rel => exact ⟨k + 1, by omega, by go_num, ⟨Hb.out.os, Hb.out.tape, Hb.out.output, Hb.out.size, Hb.out.block⟩⟩
      case measure => simp [intOf]; omega
    · go_wp2
      go_ret
      exact ⟨rfl, hb⟩
set_option maxRecDepth 100000 in
set_option maxHeartbeats 400000 in
theorem SameField_same (wd hi : Int) (A A' : Option Addr) (n c c' B : Nat) (xs : List Bool) (w : World) (hn : n ≤ maxLen) (hB : B ≤ w.heap.size)
    (hA : Rd w B 1 A n (xs.map bv)) (hA' : Rd w B 1 A' n (xs.map bv)) :
    Calls Try.prog 37 #[fieldV wd hi A n c, fieldV wd hi A' n c'] w fun e w' => e = .returned (.bool true) ∧ Below w.heap.size w w' := by
  have hb0 : ∀ o o', Below w.heap.size w ((w.alloc o).alloc o') := fun o o' => ((Below.refl _ _).alloc (Nat.le_refl _) _).alloc (by simp) _
  have H0 := Lib.hid hb0
  clear hb0
  unfold fieldV
  go_enter Try.func37, Try.ntmps37
  go_wp2_with fail
  refine (equalB_same A A' n c c' B xs _ hn (by simp; omega) ((hA.below ((H0.out _ _).mono hB))) ((hA'.below ((H0.out _ _).mono hB)))).mono ?_
  rintro e w1 ⟨rfl, hb1⟩
  go_wp2
  go_ret
  exact ⟨rfl, (H0.out _ _).trans (hb1.mono (by simp; omega))⟩
set_option maxRecDepth 100000 in
set_option maxHeartbeats 400000 in
theorem same1_same (nm : ByteArray) (wd hi : Int) (A A' : Option Addr) (n c c' B : Nat) (xs : List Bool) (w : World) (hn : n ≤ maxLen) (hB : B ≤ w.heap.size)
    (hA : Rd w B 1 A n (xs.map bv)) (hA' : Rd w B 1 A' n (xs.map bv)) :
    Calls Try.prog 36 #[.agg #[.string nm, .int .i64 wd, .int .i64 hi, .slice A n c], .agg #[.string nm, .int .i64 wd, .int .i64 hi, .slice A' n c']] w fun e w' => e = .returned (.bool true) ∧ Below w.heap.size w w' := by
  have hb0 : ∀ o o', Below w.heap.size w ((w.alloc o).alloc o') := fun o o' => ((Below.refl _ _).alloc (Nat.le_refl _) _).alloc (by simp) _
  have H0 := Lib.hid hb0
  clear hb0
  have h1 : (nm.toList == nm.toList) = true := by simp
  have SC := SameField_same wd hi A A' n c c' B xs
  unfold fieldV at SC
  have SCH := Lib.hid SC
  clear SC
  go_enter Try.func36, Try.ntmps36
  go_wp2_with fail
  refine (SCH.out _ hn (by simp; omega) ((hA.below ((H0.out _ _).mono hB))) ((hA'.below ((H0.out _ _).mono hB)))).mono ?_
  rintro e w1 ⟨rfl, hb1⟩
  go_wp2
  go_ret
  exact ⟨rfl, (H0.out _ _).trans (hb1.mono (by simp; omega))⟩
set_option maxRecDepth 100000 in
set_option maxHeartbeats 1000000 in
theorem equalS_same (A A' : Option Addr) (n c c' : Nat) (l m : List Shp) (w : World) (hn : n ≤ maxLen) (hf : ShF l) (hs : Same l m) (hA : ShR w w.heap.size A n l) (hA' : ShR w w.heap.size A' n m) :
    Calls Try.prog 35 #[.slice A n c, .slice A' n c', .func (.func 36) #[] #[]] w fun e w' => e = .returned (.bool true) ∧ Below w.heap.size w w' := by
  have HA := Lib.hid hA
  have HA' := Lib.hid hA'
  have HS := Lib.hid hs
  have HF := Lib.hid hf
  clear hA hA' hs hf
  unfold maxLen at hn
  go_enter Try.func35, Try.ntmps35
  go_wp2
  go_loopw [17] (fun i wr => ∃ k : Nat, k ≤ n ∧ i = .int .i64 k ∧ Below w.heap.size w wr) (fun i _ => n - (intOf i).toNat)
  case atStart => exact ⟨0, Nat.zero_le _, rfl, Below.refl _ _⟩
  case round =>
    obtain ⟨k, hk, rfl, hb⟩ := hrel
    by_cases hlt : k < n
    · obtain ⟨s, hs⟩ : ∃ s, l[k]? = some s := ⟨_, List.getElem?_eq_getElem (by rw [HA.out.1]; exact hlt)⟩
      obtain ⟨t, ht⟩ : ∃ s, m[k]? = some s := ⟨_, List.getElem?_eq_getElem (by rw [HA'.out.1]; exact hlt)⟩
      obtain ⟨b, off, rfl, hbb, q0, q1, q2, q3⟩ := HA.out.get hs
      obtain ⟨b', off', rfl, hbb', r0, r1, r2, r3⟩ := HA'.out.get ht
      have hct := HS.out.get hs ht
      have R1 := HA.out.2.2 s (List.mem_of_getElem? hs)
      have R2 := HA'.out.2.2 t (List.mem_of_getElem? ht)
      obtain ⟨_, f2⟩ := HF.out s (List.mem_of_getElem? hs)
      obtain ⟨nm, wd, hi, Q1, c1, cs⟩ := s
      obtain ⟨nm', wd', hi', Q2, c2, cs'⟩ := t
      unfold Shp.ct at hct
      simp only [Prod.mk.injEq] at hct
      obtain ⟨rfl, rfl, rfl, rfl⟩ := hct
      simp only at q0 q1 q2 q3 r0 r1 r2 r3 R1 R2 f2
      have d0 := (hb.cell (p := ⟨b, off + k * 4, none⟩) hbb).trans q0
      have d1 := (hb.cell (p := ⟨b, off + k * 4 + 1, none⟩) hbb).trans q1
      have d2 := (hb.cell (p := ⟨b, off + k * 4 + 2, none⟩) hbb).trans q2
      have d3 := (hb.cell (p := ⟨b, off + k * 4 + 3, none⟩) hbb).trans q3
      have RR := Lib.hid (And.intro r0 (And.intro r1 (And.intro r2 r3)))
      have Hb := Lib.hid hb
      have hki : (k : Int) < (n : Int) := by omega
      have R1H := Lib.hid R1
      have R2H := Lib.hid R2
      have hzr := hb.size
      clear hs ht q0 q1 q2 q3 r0 r1 r2 r3 hb R1 R2
      go_wp2_with (first
        | (refine wpList_store_blk rfl _ _ _ rfl wr.heap.size 0 rfl _ rfl [.string nm, .int .i64 wd, .int .i64 hi, .slice Q1 cs.length c1] rfl 33 #[.string ⟨#[]⟩, .int .i64 0, .int .i64 0, .slice none 0 0] #[.string nm, .int .i64 wd, .int .i64 hi, .slice Q1 cs.length c1] (Blk.new _ _ _) (by kernel_rfl) (by simp) (by simp [Value.oneCell']) rfl ?_; intro w2 k2 g2
           have B2 := Lib.hid (below_boxed Hb.out hzr g2)
           have e0 := (B2.out.cell (p := ⟨b', off' + k * 4, none⟩) hbb').trans RR.out.1
           have e1 := (B2.out.cell (p := ⟨b', off' + k * 4 + 1, none⟩) hbb').trans RR.out.2.1
           have e2 := (B2.out.cell (p := ⟨b', off' + k * 4 + 2, none⟩) hbb').trans RR.out.2.2.1
           have e3 := (B2.out.cell (p := ⟨b', off' + k * 4 + 3, none⟩) hbb').trans RR.out.2.2.2
           have K2 := Lib.hid k2
           have hz2 := B2.out.size
           clear k2 g2)
        | (refine wpList_store_blk rfl _ _ _ rfl w2.heap.size 0 rfl _ rfl [.string nm, .int .i64 wd, .int .i64 hi, .slice Q2 cs.length c2] rfl 33 #[.string ⟨#[]⟩, .int .i64 0, .int .i64 0, .slice none 0 0] #[.string nm, .int .i64 wd, .int .i64 hi, .slice Q2 cs.length c2] (Blk.new _ _ _) (by kernel_rfl) (by simp) (by simp [Value.oneCell']) rfl ?_; intro w3 k3 g3
           have B3 := Lib.hid (below_boxed B2.out hz2 g3)
           have K3 := Lib.hid k3
           have K3a := Lib.hid (blk_boxed K2.out g3)
           clear k3 g3 e0 e1 e2 e3)
        | (refine wpList_load_blk rfl _ _ rfl wr.heap.size 0 rfl 33 _ K3a.out [.string nm, .int .i64 wd, .int .i64 hi, .slice Q1 cs.length c1] rfl _ Try.underlying33 rfl (by kernel_rfl) ?_)
        | (refine wpList_load_blk rfl _ _ rfl w2.heap.size 0 rfl 33 _ K3.out [.string nm, .int .i64 wd, .int .i64 hi, .slice Q2 cs.length c2] rfl _ Try.underlying33 rfl (by kernel_rfl) ?_)
        | fail)
      refine (same1_same nm wd hi Q1 Q2 cs.length c1 c2 w.heap.size cs w3 f2 B3.out.size (R1H.out.below B3.out) (R2H.out.below B3.out)).mono ?_
      rintro e w4 ⟨rfl, hb4⟩
      have B4 := Lib.hid (B3.out.trans (hb4.mono B3.out.size))
      clear hb4 K2 K3 K3a B3 B2 Hb RR
      go_wp2
      go_roundw
      case rel => exact ⟨k + 1, by omega, by go_num, B4.out⟩
      case measure => simp [intOf]; omega
    · have Hb := Lib.hid hb
      clear hb
      go_wp2
      go_ret
      exact ⟨rfl, Hb.out⟩
theorem SameShapes_same (A A' : Option Addr) (n c c' : Nat) (l m : List Shp) (w : World) (hn : n ≤ maxLen) (hf : ShF l) (hs : Same l m) (hA : ShR w w.heap.size A n l) (hA' : ShR w w.heap.size A' n m) :
    Calls Try.prog 13 #[.slice A n c, .slice A' n c'] w fun e w' => e = .returned (.bool true) ∧ Below w.heap.size w w' := by
  have EC := Lib.hid (equalS_same A A' n c c' l m w hn hf hs hA hA')
  clear hn hf hs hA hA'
  go_enter Try.func13, Try.ntmps13
  go_wp2_with fail
  refine EC.out.mono ?_
  rintro e w1 ⟨rfl, hb⟩
  have HB := Lib.hid hb
  clear hb
  go_wp2
  go_ret
  exact ⟨rfl, HB.out⟩
theorem shr_one {w : World} {B b off : Nat} {s : Shp} (h0 : w.cell? ⟨b, off, none⟩ = some (.string s.nm)) (h1 : w.cell? ⟨b, off + 1, none⟩ = some (.int .i64 s.wd)) (h2 : w.cell? ⟨b, off + 2, none⟩ = some (.int .i64 s.hi)) (h3 : w.cell? ⟨b, off + 3, none⟩ = some (.slice s.A s.cs.length s.c))
    (hb : b < B) (hc : Rd w B 1 s.A s.cs.length (s.cs.map bv)) : ShR w B (some ⟨b, off, none⟩) 1 [s] := by
  refine ⟨rfl, ⟨rfl, fun _ => ⟨b, off, rfl, hb, fun j u hu => ?_⟩⟩, fun t ht => ?_⟩
  · match j with
    | 0 => exact h0.trans hu
    | 1 => exact h1.trans hu
    | 2 => exact h2.trans hu
    | 3 => exact h3.trans hu
    | j + 4 => simp [shCells, Shp.cells] at hu
  · simp at ht
    subst ht
    exact hc
end Go.Proofs.Ytbkacmklgkgamaa

/- Walks: orbits as lists; a map once, told whether it may be. Conditions: a valid map whose number is at most 2 in its parts. -/
import Derived.Test.YtjmidicidgaapaaEf
import Derived.Test.YtjmidicidgaapaaApp
namespace Go.Proofs.Ytjmidicidgaapaa
open Go.RowKit
open Num Quick
attribute [local go_sem] run_store_fl run_store_cx

def cxv (p : Nat × Nat) : Value := .complex .f32 p.1 p.2
theorem cxInfo : (Try.prog.info? 25).map (fun i => (i.zero, i.size, i.bytes)) = some (some (.complex .f32 0 0), 1, 8) := by kernel_rfl
theorem finC_cb {B : Rat} {z : Nat × Nat} (h : Cb B z) (w : World) : Calls Try.prog 27 #[.complex .f32 z.1 z.2] w fun e w' => e = .returned (.bool true) ∧ w' = w := finiteC_num h.1 h.2.1 w
set_option maxRecDepth 100000 in
set_option maxHeartbeats 4000000 in
theorem OrbitOf_ok (k m : Nat) (c z : Nat × Nat) (w : World) (hk : k ≤ 3) (hc : Cb ((2 : Nat) : Rat) c) (hz : Cb ((110 : Nat) : Rat) z) (hw : W32 z) (hm1 : 1 ≤ m) (hm : m ≤ 128) (ho : ∀ i, i + 1 < m → out (orb k c z i) = false) :
    Calls Try.prog 8 #[mapV k c, .complex .f32 z.1 z.2, .int .i64 (m : Int)] w fun e w' => ∃ g c', e = .returned (.tuple #[.slice (some ⟨g, 0, none⟩) m c', .bool true]) ∧ w'.ownsRow w.heap.size 25 1 (.slice (some ⟨g, 0, none⟩) m c') m ((List.range m).map (fun i => cxv (orb k c z i))) ∧ Below w.heap.size w w' := by
  obtain ⟨f, ef⟩ : ∃ f, orb k c z = f := ⟨_, rfl⟩
  have OK := orb_ok (n := m - 1) hk hc hz hw (fun i hi => ho i (by omega))
  have f0 : f 0 = z := by rw [← ef]; rfl
  have NX : Hid (∀ i, i + 1 < m → ∀ w : World, Calls Try.prog 25 #[mapV k c, .complex .f32 (f i).1 (f i).2] w fun e w' => e = .returned (.complex .f32 (f (i + 1)).1 (f (i + 1)).2) ∧ Below w.heap.size w w') := Lib.hid fun i h w => by
    obtain ⟨h1, h2⟩ := OK i (by omega)
    have := (nxt_ok hk hc (in_of_out h1 (ho i h)) h2).1 w
    have e : nxt k c (orb k c z i) = f (i + 1) := by rw [← ef]; rfl
    rw [e, ef] at this
    exact this
  have SM : Hid (∀ i, i < m → ∀ w : World, Calls Try.prog 21 #[.complex .f32 (f i).1 (f i).2] w fun e w' => e = .returned (.bool true) ∧ w' = w) := Lib.hid fun i h w => by
    have := isSmall_cb (OK i (by omega)).1 (by omega) w
    rw [ef] at this
    exact this
  have FI : Hid (∀ w : World, Calls Try.prog 27 #[.complex .f32 (f (m - 1)).1 (f (m - 1)).2] w fun e w' => e = .returned (.bool true) ∧ w' = w) := Lib.hid fun w => by
    have := finC_cb (OK (m - 1) (by omega)).1 w
    rw [ef] at this
    exact this
  have VM := Lib.hid (fun w => ValidMap_ok k c w hk hc)
  have AT := Lib.hid (fun w => areTurns_w m w hm)
  have SZ := Lib.hid (SM.out 0 (by omega))
  rw [ef]
  rw [f0] at SZ
  obtain ⟨v, ev⟩ : ∃ v, v = w.alloc (.cells #[.int .i64 (k : Int), .complex .f32 c.1 c.2] 28) := ⟨_, rfl⟩
  have B0 : Hid (Blk v w.heap.size 28 #[.int .i64 (k : Int), .complex .f32 c.1 c.2]) := by rw [ev]; exact Lib.hid (Blk.new _ _ _)
  have e0 : v.cell? ⟨w.heap.size, 0, none⟩ = some (.int .i64 (k : Int)) := B0.out.cell 0
  have e1 : v.cell? ⟨w.heap.size, 1, none⟩ = some (.complex .f32 c.1 c.2) := B0.out.cell 1
  have V0 : Hid (Below w.heap.size w v) := by rw [ev]; exact Lib.hid (below_new _ _)
  have EV := Lib.hid ev
  rw [ev] at e0 e1
  obtain ⟨p, q⟩ := c
  obtain ⟨za, zb⟩ := z
  unfold mapV at VM NX ⊢
  clear hc hz hw ev OK ef ho
  go_enter Try.func8, Try.ntmps8
  go_wp2_with fail
  rw [← EV.out]
  refine (VM.out _).mono ?_
  rintro e w1 ⟨rfl, hb1⟩
  have V1 := Lib.hid (V0.out.trans (hb1.mono V0.out.size))
  have B1 := Lib.hid (B0.out.below hb1 B0.out.lt)
  clear hb1 V0 EV e0 e1 B0 VM
  go_wp2_with fail
  refine (SZ.out _).mono ?_
  rintro e w2 ⟨rfl, hw2⟩
  obtain rfl := hw2.symm
  go_wp2_with fail
  refine (AT.out _).mono ?_
  rintro e w3 ⟨rfl, hw3⟩
  obtain rfl := hw3.symm
  obtain ⟨w4, ew4⟩ : ∃ w4, w4 = w1.alloc (.cells #[] 25) := ⟨_, rfl⟩
  have hz1 : w.heap.size + 1 ≤ w1.heap.size := B1.out.lt
  have B4 : Hid (Blk w4 w.heap.size 28 #[.int .i64 (k : Int), .complex .f32 p q]) := by rw [ew4]; exact Lib.hid (B1.out.alloc _)
  have V4 : Hid (Below w.heap.size w w4) := by rw [ew4]; exact Lib.hid (V1.out.alloc V1.out.size _)
  have O4 : Hid (w4.ownsRow (w.heap.size + 1) 25 1 (.slice (some ⟨w1.heap.size, 0, none⟩) 0 0) 0 ((List.range 0).map (fun i => cxv (f i)))) := by
    rw [ew4]
    exact Lib.hid (own_base ((Blk.new w1 _ _).own (n := 0) (size := 1) (Nat.le_refl _) rfl (by unfold maxLen; omega)) hz1)
  have E4 := Lib.hid ew4
  clear ew4 B1 V1 SZ AT
  go_wp2
  rw [← E4.out]
  clear E4
  have f0a : (za, zb) = f 0 := f0.symm
  have fa : za = (f 0).1 := by rw [← f0a]
  have fb : zb = (f 0).2 := by rw [← f0a]
  have FA := Lib.hid fa
  have FB := Lib.hid fb
  clear f0 f0a fa fb
  go_loopw [1, 8, 25] (fun sz so si wr => ∃ (i g c' : Nat), si = .int .i64 (i : Int) ∧ i ≤ m ∧ so = .slice (some ⟨g, 0, none⟩) i c' ∧ sz = .complex .f32 (f (i - 1)).1 (f (i - 1)).2 ∧ Hid (wr.ownsRow (w.heap.size + 1) 25 1 (.slice (some ⟨g, 0, none⟩) i c') i ((List.range i).map (fun i => cxv (f i)))) ∧ Hid (Blk wr w.heap.size 28 #[.int .i64 (k : Int), .complex .f32 p q]) ∧ Hid (Below w.heap.size w wr)) (fun _ _ si _ => m - (intOf si).toNat)
  case atStart => exact ⟨0, w1.heap.size, 0, rfl, Nat.zero_le _, rfl, by rw [FA.out, FB.out], O4, B4, V4⟩
  case round =>
    clear O4 B4 V4
    obtain ⟨i, g, c', rfl, hi, rfl, rfl, O, B, V⟩ := hrel
    by_cases hlt : i < m
    · have hii : (i : Int) < (m : Int) := by omega
      have STEP : ∀ (wq : World) (hO : Hid (wq.ownsRow (w.heap.size + 1) 25 1 (.slice (some ⟨g, 0, none⟩) i c') i ((List.range i).map (fun i => cxv (f i))))), w.heap.size + 1 ≤ wq.heap.size := fun wq hO => by
        have h1 := hO.out.lt g (by simp [Value.ownBlock])
        omega
      by_cases h0 : 0 < i
      · have hg0 : decide ((0 : Int) < (i : Int)) = true := by simpa using h0
        have SMI := Lib.hid (SM.out (i - 1) (by omega) wr)
        have NXI := NX.out (i - 1) (by omega) wr
        rw [show i - 1 + 1 = i by omega] at NXI
        have NXI := Lib.hid NXI
        have e0 := B.out.cell 0
        have e1 := B.out.cell 1
        go_wp2_with fail
        refine SMI.out.mono ?_
        rintro e w5 ⟨rfl, hw5⟩
        obtain rfl := hw5.symm
        go_wp2_with fail
        refine NXI.out.mono ?_
        rintro e w6 ⟨rfl, hb6⟩
        have B6 := Lib.hid (B.out.below hb6 B.out.lt)
        have V6 := Lib.hid (V.out.trans (hb6.mono V.out.size))
        have O6 := Lib.hid (own_below O.out hb6)
        have hzA := STEP w6 O6
        clear hb6 B V O e0 e1 NXI SMI STEP
        go_wp2_with (first
          | (at_builtin; refine wpList_append_one (P := Try.prog) (W := w6) rfl _ _ _ rfl (w.heap.size + 1) 25 (.complex .f32 0 0) 8 Try.underlying32 cxInfo rfl (some ⟨g, 0, none⟩) i c' ((List.range i).map (fun i => cxv (f i))) rfl O6.out (.complex .f32 (f i).1 (f i).2) w6.heap.size rfl rfl rfl (by unfold maxLen; omega) (by omega) hzA ?_; intro A9 c9 w9 ho9 hg9 hd9)
          | fail)
        obtain ⟨g9, c9', e9, _, _⟩ := ho9.form (by omega)
        rw [e9] at ho9
        have hlo : ∀ k, (Value.slice (some ⟨g, 0, none⟩) i c').ownBlock = some k → w.heap.size + 1 ≤ k := fun k e => (O6.out.lt k e).1
        have B9 := Lib.hid (B6.out.grown hg9 (own_blk_ne O6.out B6.out (by decide)))
        have V9 := Lib.hid (V6.out.grown hg9 V6.out.size (fun k e => by have := hlo k e; omega))
        have O9 : Hid (w9.ownsRow (w.heap.size + 1) 25 1 (.slice (some ⟨g9, 0, none⟩) (i + 1) c9') (i + 1) ((List.range (i + 1)).map (fun i => cxv (f i)))) := by
          rw [List.range_succ, List.map_append, List.map_cons, List.map_nil]
          exact Lib.hid ho9
        have E9 := Lib.hid e9
        clear ho9 hg9 hlo hd9 e9 hzA O6 B6 V6
        go_wp2
        go_roundw
        case rel => exact ⟨i + 1, g9, c9', by go_num, by omega, E9.out, rfl, O9, B9, V9⟩
        case measure => simp [intOf]; omega
      · have hg0 : decide ((0 : Int) < (i : Int)) = false := by simp; omega
        have hi0 : Hid (i = 0) := Lib.hid (by omega)
        have hzA := STEP wr O
        have e1 : Hid (f (i - 1) = f i) := Lib.hid (by rw [hi0.out])
        rw [e1.out]
        clear STEP
        go_wp2_with (first
          | (at_builtin; refine wpList_append_one (P := Try.prog) (W := wr) rfl _ _ _ rfl (w.heap.size + 1) 25 (.complex .f32 0 0) 8 Try.underlying32 cxInfo rfl (some ⟨g, 0, none⟩) i c' ((List.range i).map (fun i => cxv (f i))) rfl O.out (.complex .f32 (f i).1 (f i).2) wr.heap.size rfl rfl rfl (by unfold maxLen; omega) (by omega) hzA ?_; intro A9 c9 w9 ho9 hg9 hd9)
          | fail)
        obtain ⟨g9, c9', e9, _, _⟩ := ho9.form (by omega)
        rw [e9] at ho9
        have hlo : ∀ k, (Value.slice (some ⟨g, 0, none⟩) i c').ownBlock = some k → w.heap.size + 1 ≤ k := fun k e => (O.out.lt k e).1
        have B9 := Lib.hid (B.out.grown hg9 (own_blk_ne O.out B.out (by decide)))
        have V9 := Lib.hid (V.out.grown hg9 V.out.size (fun k e => by have := hlo k e; omega))
        have O9 : Hid (w9.ownsRow (w.heap.size + 1) 25 1 (.slice (some ⟨g9, 0, none⟩) (i + 1) c9') (i + 1) ((List.range (i + 1)).map (fun i => cxv (f i)))) := by
          rw [List.range_succ, List.map_append, List.map_cons, List.map_nil]
          exact Lib.hid ho9
        have E9 := Lib.hid e9
        clear ho9 hg9 hlo hd9 e9 hzA O B V
        go_wp2
        go_roundw
        case rel => exact ⟨i + 1, g9, c9', by go_num, by omega, E9.out, rfl, O9, B9, V9⟩
        case measure => simp [intOf]; omega
    · obtain rfl : i = m := by omega
      go_wp2_with fail
      refine (FI.out _).mono ?_
      rintro e w5 ⟨rfl, hw5⟩
      obtain rfl := hw5.symm
      go_wp2
      go_ret2
      exact ⟨g, c', rfl, own_base O.out (by omega), V.out⟩
end Go.Proofs.Ytjmidicidgaapaa

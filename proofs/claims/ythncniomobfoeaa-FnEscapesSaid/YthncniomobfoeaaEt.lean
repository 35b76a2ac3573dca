/- Walk: InverseWalk. Conditions: numbers of eighths, a seed of 31 bits. -/
import Derived.Test.YthncniomobfoeaaEs
namespace Go.Proofs.Ythncniomobfoeaa
open Go.RowKit
open Num Quick Circ
attribute [local go_sem] run_store_fl run_store_cx

set_option maxRecDepth 100000 in
set_option maxHeartbeats 4000000 in
theorem InverseWalk_ok (p q s n : Nat) (z : Nat × Nat) (w : World) (hc : Cb ((2 : Nat) : Rat) (p, q)) (hz : Cb ((2 : Nat) : Rat) z) (hq : Num.fv .f32 z.1 * Num.fv .f32 z.1 + Num.fv .f32 z.2 * Num.fv .f32 z.2 ≤ 81 / 10) (hs : s ≤ 2147483647) (hn : n ≤ 256) :
    Calls Try.prog 18 #[.complex .f32 p q, .complex .f32 z.1 z.2, .int .i64 (n : Int), .int .i64 (s : Int)] w fun e w' => ∃ g c', e = .returned (.tuple #[.slice (some ⟨g, 0, none⟩) n c', .int .i64 (sds s n : Nat), .bool true]) ∧ w'.ownsRow w.heap.size 25 1 (.slice (some ⟨g, 0, none⟩) n c') n ((List.range n).map (fun i => cxv (invs p q s z (i + 1)))) ∧ Below w.heap.size w w' := by
  obtain ⟨f, ef⟩ : ∃ f, invs p q s z = f := ⟨_, rfl⟩
  obtain ⟨sd, es⟩ : ∃ sd, sds s = sd := ⟨_, rfl⟩
  have OK := invs_ok (s := s) hc hz.1 hz.2.1 hq
  have SB := sds_le hs
  rw [es] at SB
  have ST : Hid (∀ k, ∀ w : World, Calls Try.prog 47 #[.int .i64 (sd k : Int)] w fun e w' => e = .returned (.int .i64 (sd (k + 1) : Nat)) ∧ w' = w) := Lib.hid fun k w => by
    have := nextSeed_any (sd k) w (SB k)
    have e : nsd (sd k) = sd (k + 1) := by rw [← es]; rfl
    rwa [e] at this
  rw [ef, es] at OK
  have f0 : f 0 = z := by rw [← ef]; rfl
  have s0 : sd 0 = s := by rw [← es]; rfl
  have IV := Lib.hid OK
  have FI : Hid (∀ k, k < n → Cb ((3 : Nat) : Rat) (f (k + 1))) := Lib.hid fun k _ => (OK k).led.cb
  have SC := Lib.hid (fun w => isSmall_cb hc (by omega) w)
  have SZ := Lib.hid (fun w => isSmall_cb hz (by omega) w)
  have WI := Lib.hid (fun w => within_w (n : Int) 0 256 w (by omega) (by omega))
  have IS := Lib.hid (fun w => isSeed_w s w hs)
  have OP := Lib.hid (fun a b w => opposite_w a b w)
  have AF := Lib.hid (fun A c w h => areFinite_w (fun k => f (k + 1)) A n c w hn FI.out h)
  have HN := Lib.hid hn
  have SB := Lib.hid SB
  rw [ef, es]
  obtain ⟨w1, ew1⟩ : ∃ w1, w1 = w.alloc (.cells #[] 25) := ⟨_, rfl⟩
  have V1 : Hid (Below w.heap.size w w1) := by rw [ew1]; exact Lib.hid (below_new _ _)
  have O1 : Hid (w1.ownsRow w.heap.size 25 1 (.slice (some ⟨w.heap.size, 0, none⟩) 0 0) 0 ((List.range 0).map (fun i => cxv (f (i + 1))))) := by
    rw [ew1]
    exact Lib.hid ((Blk.new w _ _).own (n := 0) (size := 1) (Nat.le_refl _) rfl (by unfold maxLen; omega))
  have E1 := Lib.hid ew1
  obtain ⟨za, zb⟩ := z
  have fa : za = (f 0).1 := by rw [f0]
  have fb : zb = (f 0).2 := by rw [f0]
  have FA := Lib.hid fa
  have FB := Lib.hid fb
  have S0 := Lib.hid s0
  clear hc hz hq ef es OK hs f0 s0 fa fb ew1 FI
  go_enter Try.func18, Try.ntmps18
  go_wp2_with fail
  refine (SC.out _).mono ?_
  rintro e w2 ⟨rfl, hw2⟩
  obtain rfl := hw2.symm
  go_wp2_with fail
  refine (SZ.out _).mono ?_
  rintro e w2 ⟨rfl, hw2⟩
  obtain rfl := hw2.symm
  go_wp2_with fail
  refine (WI.out _).mono ?_
  rintro e w2 ⟨rfl, hw2⟩
  obtain rfl := hw2.symm
  go_wp2_with fail
  refine (IS.out _).mono ?_
  rintro e w2 ⟨rfl, hw2⟩
  obtain rfl := hw2.symm
  clear SC SZ WI IS
  go_wp2
  rw [← E1.out]
  clear E1
  go_loopw [1, 3, 11, 32] (fun sz ss so si wr => ∃ (i g c' : Nat), si = .int .i64 (i : Int) ∧ i ≤ n ∧ so = .slice (some ⟨g, 0, none⟩) i c' ∧ ss = .int .i64 (sd i : Nat) ∧ sz = .complex .f32 (f i).1 (f i).2 ∧ Hid (wr.ownsRow w.heap.size 25 1 (.slice (some ⟨g, 0, none⟩) i c') i ((List.range i).map (fun i => cxv (f (i + 1))))) ∧ Hid (Below w.heap.size w wr)) (fun _ _ _ si _ => n - (intOf si).toNat)
  case atStart => exact ⟨0, w.heap.size, 0, rfl, Nat.zero_le _, rfl, by rw [S0.out], by rw [FA.out, FB.out], O1, V1⟩
  case round =>
    clear O1 V1 FA FB S0
    obtain ⟨i, g, c', rfl, hi, rfl, rfl, rfl, O, V⟩ := hrel
    by_cases hlt : i < n
    · have hii : (i : Int) < (n : Int) := by omega
      obtain ⟨d1, d2, u, v, P1, P2, e3⟩ := (IV.out i).step
      have P1 := Lib.hid P1
      have P2 := Lib.hid P2
      have E3 := Lib.hid e3
      clear e3
      obtain ⟨x, ex⟩ : ∃ x, sd (i + 1) = x := ⟨_, rfl⟩
      have hx : x ≤ 2147483647 := by rw [← ex]; exact SB.out _
      have PC := par_cast x
      have STI := ST.out i wr
      rw [ex] at STI E3
      have STI := Lib.hid STI
      have EX := Lib.hid ex
      clear ex
      go_wp2_with fail
      refine STI.out.mono ?_
      rintro e w5 ⟨rfl, hw5⟩
      obtain rfl := hw5.symm
      go_wp2_with fail
      refine (P1.out _).mono ?_
      rintro e w5 ⟨rfl, hw5⟩
      obtain rfl := hw5.symm
      go_wp2_with fail
      refine (P2.out _).mono ?_
      rintro e w5 ⟨rfl, hw5⟩
      obtain rfl := hw5.symm
      clear STI P1 P2
      by_cases hpar : par x = true
      · rw [hpar] at PC
        rw [hpar, if_pos rfl] at E3
        go_wp2_with fail
        refine (OP.out _ _ _).mono ?_
        rintro e w5 ⟨rfl, hw5⟩
        obtain rfl := hw5.symm
        clear PC
        go_wp2_with (first
          | (at_builtin; refine wpList_append_one (P := Try.prog) (W := wr) rfl _ _ _ rfl w.heap.size 25 (.complex .f32 0 0) 8 Try.underlying34 cxInfo rfl (some ⟨g, 0, none⟩) i c' ((List.range i).map (fun i => cxv (f (i + 1)))) rfl O.out (.complex .f32 (ng32 u) (ng32 v)) wr.heap.size rfl rfl rfl (by unfold maxLen; have := HN.out; omega) (by have := HN.out; omega) V.out.size ?_; intro A9 c9 w9 ho9 hg9 hd9)
          | fail)
        obtain ⟨g9, c9', e9, _, _⟩ := ho9.form (by omega)
        rw [e9] at ho9
        have hlo : ∀ k, (Value.slice (some ⟨g, 0, none⟩) i c').ownBlock = some k → w.heap.size ≤ k := fun k e => (O.out.lt k e).1
        have V9 := Lib.hid (V.out.grown hg9 V.out.size (fun k e => by have := hlo k e; omega))
        have O9 : Hid (w9.ownsRow w.heap.size 25 1 (.slice (some ⟨g9, 0, none⟩) (i + 1) c9') (i + 1) ((List.range (i + 1)).map (fun i => cxv (f (i + 1))))) := by
          rw [List.range_succ, List.map_append, List.map_cons, List.map_nil]
          have e : cxv (f (i + 1)) = .complex .f32 (ng32 u) (ng32 v) := by rw [E3.out]; rfl
          rw [e]
          exact Lib.hid ho9
        have E9 := Lib.hid e9
        have F3 : Hid ((Value.complex .f32 (ng32 u) (ng32 v)) = .complex .f32 (f (i + 1)).1 (f (i + 1)).2) := by rw [E3.out]; exact Lib.hid rfl
        clear ho9 hg9 hlo hd9 e9 O V E3
        go_wp2
        go_roundw
        case rel => exact ⟨i + 1, g9, c9', by go_num, by omega, E9.out, by rw [EX.out], F3.out, O9, V9⟩
        case measure => simp [intOf]; omega
      · have hpar : par x = false := by simpa using hpar
        rw [hpar] at PC
        rw [hpar, if_neg (by decide)] at E3
        go_wp2_with (first
          | (at_builtin; refine wpList_append_one (P := Try.prog) (W := wr) rfl _ _ _ rfl w.heap.size 25 (.complex .f32 0 0) 8 Try.underlying34 cxInfo rfl (some ⟨g, 0, none⟩) i c' ((List.range i).map (fun i => cxv (f (i + 1)))) rfl O.out (.complex .f32 u v) wr.heap.size rfl rfl rfl (by unfold maxLen; have := HN.out; omega) (by have := HN.out; omega) V.out.size ?_; intro A9 c9 w9 ho9 hg9 hd9)
          | fail)
        obtain ⟨g9, c9', e9, _, _⟩ := ho9.form (by omega)
        rw [e9] at ho9
        have hlo : ∀ k, (Value.slice (some ⟨g, 0, none⟩) i c').ownBlock = some k → w.heap.size ≤ k := fun k e => (O.out.lt k e).1
        have V9 := Lib.hid (V.out.grown hg9 V.out.size (fun k e => by have := hlo k e; omega))
        have O9 : Hid (w9.ownsRow w.heap.size 25 1 (.slice (some ⟨g9, 0, none⟩) (i + 1) c9') (i + 1) ((List.range (i + 1)).map (fun i => cxv (f (i + 1))))) := by
          rw [List.range_succ, List.map_append, List.map_cons, List.map_nil]
          have e : cxv (f (i + 1)) = .complex .f32 u v := by rw [E3.out]; rfl
          rw [e]
          exact Lib.hid ho9
        have E9 := Lib.hid e9
        have F3 : Hid ((Value.complex .f32 u v) = .complex .f32 (f (i + 1)).1 (f (i + 1)).2) := by rw [E3.out]; exact Lib.hid rfl
        clear ho9 hg9 hlo hd9 e9 O V E3
        go_wp2
        go_roundw
        case rel => exact ⟨i + 1, g9, c9', by go_num, by omega, E9.out, by rw [EX.out], F3.out, O9, V9⟩
        case measure => simp [intOf]; omega
    · obtain rfl : i = n := by omega
      go_wp2_with fail
      refine (AF.out _ _ _ (Rd.own O.out)).mono ?_
      rintro e w5 ⟨rfl, hw5⟩
      obtain rfl := hw5.symm
      go_wp2
      go_ret3
      exact ⟨g, c', rfl, O.out, V.out⟩
end Go.Proofs.Ythncniomobfoeaa

/- Walks: lists of points that a function changes, moved, turned and fitted lines. Conditions: the function's numbers are known. -/
import Derived.Test.YtkldgcgijkfpaaaTue
namespace Go.Proofs.Ytkldgcgijkfpaaa
open Go.RowKit
open Num Quick
attribute [local go_sem] run_store_fl run_store_cx

theorem tifPoints_w {B : Rat} (f : Nat → Nat × Nat) (A : Option Addr) (n c : Nat) (w : World) (hn2 : n ≤ 256) (hP : ∀ k, k < n → Cb B (f k)) (hA : Rd w w.heap.size 1 A n ((List.range n).map (fun i => cxv (f i)))) :
    Calls Try.prog 61 #[.slice A n c] w fun e w' => e = .returned (.tuple #[.slice A n c, .bool true]) ∧ w' = w := by
  have AP := Lib.hid (arePoints_w f A n c w hn2 hP hA)
  go_enter Try.func61, Try.ntmps61
  go_wp2_with fail
  refine AP.out.mono ?_
  rintro e w1 ⟨rfl, hw1⟩
  obtain rfl := hw1.symm
  go_wp2
  go_ret2
  exact ⟨rfl, rfl⟩
set_option maxRecDepth 100000 in
set_option maxHeartbeats 4000000 in
theorem mapped_ok {B B' : Rat} (f h : Nat → Nat × Nat) (A : Option Addr) (n c : Nat) (F : FuncId) (caps : Array Value) (w : World) (hn : n ≤ 64) (hf : ∀ i, i < n → Cb B (f i)) (hh : ∀ i, i < n → Cb B' (h i))
    (hcf : ∀ (args : Array Value) (w : World), (callFunc F args).run Try.prog w = .ok (.enter F args) w)
    (hfc : ∀ i, i < n → ∀ w', Below w.heap.size w w' → Calls Try.prog F (#[.complex .f32 (f i).1 (f i).2] ++ caps) w' fun e w'' => e = .returned (.complex .f32 (h i).1 (h i).2) ∧ ∃ m, w'' = w'.drewN m)
    (hA : Rd w w.heap.size 1 A n ((List.range n).map (fun i => cxv (f i)))) :
    Calls Try.prog 39 #[.slice A n c, .func (.func F) #[] caps] w fun e w' => ∃ (g c' : Nat), e = .returned (.tuple #[.slice (some ⟨g, 0, none⟩) n c', .bool true]) ∧ w'.ownsRow w.heap.size 37 1 (.slice (some ⟨g, 0, none⟩) n c') n ((List.range n).map (fun i => cxv (h i))) ∧ Below w.heap.size w w' := by
  have AP := Lib.hid (arePoints_w f A n c w (by omega) hf hA)
  have HA := Lib.hid hA
  have FC := Lib.hid hfc
  have HH := Lib.hid hh
  obtain ⟨v, ev⟩ : ∃ v, v = w.alloc (.cells #[] 37) := ⟨_, rfl⟩
  have V0 : Hid (Below w.heap.size w v) := by rw [ev]; exact Lib.hid ((Below.refl _ _).alloc (Nat.le_refl _) _)
  have O0 : Hid (v.ownsRow w.heap.size 37 1 (.slice (some ⟨w.heap.size, 0, none⟩) 0 0) 0 ((List.range 0).map (fun i => cxv (h i)))) := by
    rw [ev]
    exact Lib.hid ((Blk.new w _ _).own (n := 0) (size := 1) (Nat.le_refl _) rfl (by unfold maxLen; omega))
  have EV := Lib.hid ev
  clear hf hA hfc hh ev
  go_enter Try.func39, Try.ntmps39
  go_wp2_with fail
  refine AP.out.mono ?_
  rintro e w1 ⟨rfl, hw1⟩
  obtain rfl := hw1.symm
  go_wp2
  rw [← EV.out]
  clear EV AP
  go_loopw [6, 15] (fun so si wr => ∃ (i g c' : Nat), si = .int .i64 (i : Int) ∧ i ≤ n ∧ so = .slice (some ⟨g, 0, none⟩) i c' ∧ Hid (wr.ownsRow w.heap.size 37 1 (.slice (some ⟨g, 0, none⟩) i c') i ((List.range i).map (fun i => cxv (h i)))) ∧ Hid (Below w.heap.size w wr)) (fun _ si _ => n - (intOf si).toNat)
  case atStart => exact ⟨0, _, _, rfl, Nat.zero_le _, rfl, O0, V0⟩
  case round =>
    clear O0 V0
    obtain ⟨i, g, c', rfl, hi, rfl, O, V⟩ := hrel
    by_cases hlt : i < n
    · have hli : (i : Int) < (n : Int) := by omega
      have PX := Lib.hid (FC.out i hlt wr V.out)
      obtain ⟨b, off, eA, hbb, hc⟩ := ((HA.out).below V.out).2 (by omega)
      have cI := hc i _ (range_map_get (fun i => cxv (f i)) hlt)
      obtain ⟨p, ep⟩ : ∃ p, f i = p := ⟨_, rfl⟩
      obtain ⟨q, eq⟩ : ∃ p, h i = p := ⟨_, rfl⟩
      rw [ep] at cI PX
      rw [eq] at PX
      have EQ := Lib.hid eq
      obtain ⟨p1, p2⟩ := p
      obtain ⟨q1, q2⟩ := q
      unfold cxv at cI
      simp only at cI PX
      clear hc ep eq FC
      subst eA
      go_wp2_with fail
      with_reducible refine Calls.mono PX.out ?_
      rintro e w7 ⟨rfl, m7, hw7⟩
      have O7 : Hid (w7.ownsRow w.heap.size 37 1 (.slice (some ⟨g, 0, none⟩) i c') i ((List.range i).map (fun i => cxv (h i)))) := by rw [hw7]; exact O
      have V7 : Hid (Below w.heap.size w w7) := by rw [hw7]; exact Lib.hid (V.out.trans ⟨rfl, rfl, rfl, Nat.le_refl _, fun _ _ => rfl⟩)
      clear hw7 O V PX cI
      go_wp2_with (first
        | (at_builtin; refine wpList_append_one (P := Try.prog) (W := w7) rfl _ _ _ rfl w.heap.size 37 (.complex .f32 0 0) 8 Try.underlying27 cxInfo rfl (some ⟨g, 0, none⟩) i c' ((List.range i).map (fun i => cxv (h i))) rfl O7.out (.complex .f32 q1 q2) w7.heap.size rfl rfl rfl (by unfold maxLen; omega) (by omega) V7.out.size ?_; intro A9 c9 w9 ho9 hg9 hd9)
        | fail)
      obtain ⟨g9, c9', e9, _, _⟩ := ho9.form (by omega)
      rw [e9] at ho9
      have O9 : Hid (w9.ownsRow w.heap.size 37 1 (.slice (some ⟨g9, 0, none⟩) (i + 1) c9') (i + 1) ((List.range (i + 1)).map (fun i => cxv (h i)))) := by
        rw [List.range_succ, List.map_append, List.map_cons, List.map_nil, EQ.out]
        exact Lib.hid ho9
      have V9 := Lib.hid (V7.out.grown hg9 V7.out.size (fun k e => (O7.out.lt k e).1))
      have E9 := Lib.hid e9
      clear ho9 hg9 hd9 e9 O7 V7
      go_wp2
      go_roundw
      case rel => exact ⟨i + 1, g9, c9', by go_num, by omega, E9.out, O9, V9⟩
      case measure => simp [intOf]; omega
    · obtain rfl : i = n := by omega
      have IP := Lib.hid (tifPoints_w h (some ⟨g, 0, none⟩) i c' wr (by omega) HH.out (Rd.own O.out))
      clear FC
      go_wp2_with fail
      refine IP.out.mono ?_
      rintro e w5 ⟨rfl, h5⟩
      obtain rfl := h5.symm
      go_wp2
      go_ret2
      exact ⟨g, c', rfl, O.out, V.out⟩
/-- The functions that lines are changed with. -/
theorem move_cl {a1 a2 b1 b2 u v g : Nat} (h1 : floatBits .add .f32 a1 b1 = some u) (h2 : floatBits .add .f32 a2 b2 = some v) (w : World) (hc : w.cell? ⟨g, 0, none⟩ = some (.complex .f32 b1 b2)) : Calls Try.prog 40 #[.complex .f32 a1 a2, .pointer (some ⟨g, 0, none⟩)] w fun e w' => e = .returned (.complex .f32 u v) ∧ ∃ m, w' = w.drewN m := by
  have AD := Lib.hid (fun w => tadd_w h1 h2 w)
  clear h1 h2
  go_enter Try.func40, Try.ntmps40
  go_wp2_with fail
  refine (AD.out _).mono ?_
  rintro e w5 ⟨rfl, h5⟩
  obtain rfl := h5.symm
  go_wp2
  go_ret
  exact ⟨rfl, 0, rfl⟩
theorem turn_cl {a1 a2 b1 b2 u v g : Nat} (h : ∀ w : World, Calls Try.prog 46 #[.complex .f32 a1 a2, .complex .f32 b1 b2] w fun e w' => e = .returned (.complex .f32 u v) ∧ w' = w) (w : World) (hc : w.cell? ⟨g, 0, none⟩ = some (.complex .f32 b1 b2)) : Calls Try.prog 45 #[.complex .f32 a1 a2, .pointer (some ⟨g, 0, none⟩)] w fun e w' => e = .returned (.complex .f32 u v) ∧ ∃ m, w' = w.drewN m := by
  have MU := Lib.hid h
  clear h
  go_enter Try.func45, Try.ntmps45
  go_wp2_with fail
  refine (MU.out _).mono ?_
  rintro e w5 ⟨rfl, h5⟩
  obtain rfl := h5.symm
  go_wp2
  go_ret
  exact ⟨rfl, 0, rfl⟩
theorem fit_cl {p1 p2 a1 a2 f1 f2 q1 q2 d1 d2 m1 m2 u v g1 g2 g3 : Nat} (hs1 : floatBits .sub .f32 p1 a1 = some d1) (hs2 : floatBits .sub .f32 p2 a2 = some d2) (hm : ∀ w : World, Calls Try.prog 46 #[.complex .f32 d1 d2, .complex .f32 q1 q2] w fun e w' => e = .returned (.complex .f32 m1 m2) ∧ w' = w)
    (h1 : floatBits .add .f32 f1 m1 = some u) (h2 : floatBits .add .f32 f2 m2 = some v) (w : World) (c1 : w.cell? ⟨g1, 0, none⟩ = some (.complex .f32 f1 f2)) (c2 : w.cell? ⟨g2, 0, none⟩ = some (.complex .f32 a1 a2)) (c3 : w.cell? ⟨g3, 0, none⟩ = some (.complex .f32 q1 q2)) :
    Calls Try.prog 52 #[.complex .f32 p1 p2, .pointer (some ⟨g1, 0, none⟩), .pointer (some ⟨g2, 0, none⟩), .pointer (some ⟨g3, 0, none⟩)] w fun e w' => e = .returned (.complex .f32 u v) ∧ ∃ m, w' = w.drewN m := by
  have AD := Lib.hid (fun w => tadd_w h1 h2 w)
  have SU := Lib.hid (fun w => tsub_w hs1 hs2 w)
  have MU := Lib.hid hm
  clear h1 h2 hs1 hs2 hm
  go_enter Try.func52, Try.ntmps52
  go_wp2
  go_quiet (first
    | (go_at_call 51; with_reducible exact Calls.quiet_of_same (SU.out _))
    | (go_at_call 46; with_reducible exact Calls.quiet_of_same (MU.out _))
    | (go_at_call 41; with_reducible exact Calls.quiet_of_same (AD.out _)))
  try go_wp2
  go_ret
  exact ⟨rfl, _, rfl⟩
end Go.Proofs.Ytkldgcgijkfpaaa

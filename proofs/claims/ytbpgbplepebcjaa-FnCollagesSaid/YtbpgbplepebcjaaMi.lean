/- Walks: two small maps joined. Conditions: parts of middling size. -/
import Derived.Test.YtbpgbplepebcjaaMh
namespace Go.Proofs.Ytbpgbplepebcjaa
open Go.RowKit
open Num Quick

attribute [local go_sem] run_store_fl run_store_cx
section
variable {P : Program}
theorem res_row2 {fn : Func} {p a : Tmp} {ty : TypeId} (h : fn.results = #[.cell p ty, .tmp a]) (tmps : Array Value) (w : World) (g : Nat) (t : TypeId) (cs : Array Value) (d : TypeDesc)
    (hp : tmps.getD p undef = .pointer (some ⟨g, 0, none⟩)) (hg : Blk w g t cs)
    (hu : P.underlying ty = some d) (hd : (match d with | .struct _ | .array _ _ => true | _ => false) = true) (hi : (P.info? ty).map (·.size) = some cs.size) (va : Value) (ha : tmps.getD a undef = va) :
    (results fn tmps).run P w = .ok (.tuple #[.agg cs, va]) w := by
  have hp' : tmps[p]?.getD undef = .pointer (some ⟨g, 0, none⟩) := by simpa using hp
  have ha' : tmps[a]?.getD undef = va := by simpa using ha
  simp [results, h, hp', ha', asAddr, run_loadVar_row w g t ty cs (0, 0) d hg hu hd hi]
end
/-- A block of the cells of a small map, as loads see it. -/
def SmC (w : World) (g : Nat) (a b c d : Nat) (fl : Bool) (s : Nat) : Prop :=
  w.cell? ⟨g, 0, none⟩ = some (.complex .f32 a b) ∧ w.cell? ⟨g, 1, none⟩ = some (.complex .f32 c d) ∧ w.cell? ⟨g, 2, none⟩ = some (.bool fl) ∧ w.cell? ⟨g, 3, none⟩ = some (.float .f32 s)
theorem Blk.smC {w : World} {g : Nat} {t : TypeId} {a b c d s : Nat} {fl : Bool} (h : Blk w g t (smallC a b c d fl s)) : SmC w g a b c d fl s := ⟨h.cell 0, h.cell 1, h.cell 2, h.cell 3⟩
set_option maxRecDepth 100000 in
set_option maxHeartbeats 4000000 in
theorem join_w {a b c d s a' b' c' d' s' p q u v x : Nat} (fl fl' : Bool) (h : OkSmall a b c d s) (h' : OkSmall a' b' c' d' s')
    (M : ∀ w : World, Calls Try.prog 48 #[.complex .f32 a b, .complex .f32 a' (flipN fl b')] w fun e w' => e = .returned (.complex .f32 p q) ∧ w' = w)
    (A : ∀ w : World, Calls Try.prog 45 #[smallV a b c d fl s, .complex .f32 c' d'] w fun e w' => e = .returned (.complex .f32 u v) ∧ Below w.heap.size w w')
    (hx : floatBits .mul .f32 s s' = some x) (ho : OkSmall p q u v x) (w : World) :
    Calls Try.prog 12 #[smallV a b c d fl s, smallV a' b' c' d' fl' s'] w fun e w' => e = .returned (.tuple #[smallV p q u v (fl != fl') x, .bool true]) ∧ Below w.heap.size w w' := by
  obtain ⟨v0, ev⟩ : ∃ v0, v0 = ((w.alloc (.cells (smallC a b c d fl s) 29)).alloc (.cells (smallC a' b' c' d' fl' s') 29)).alloc (.cells (smallC 0 0 0 0 false 0) 29) := ⟨_, rfl⟩
  have hsz : v0.heap.size = w.heap.size + 1 + 1 + 1 := by rw [ev]; simp
  have B0 : Blk v0 w.heap.size 29 (smallC a b c d fl s) := by rw [ev]; exact ((Blk.new w _ _).alloc _).alloc _
  have B1 : Blk v0 (w.heap.size + 1) 29 (smallC a' b' c' d' fl' s') := by rw [ev]; exact (Blk.new2 w _ _ _).alloc _
  have B2 : Hid (Blk v0 (w.heap.size + 1 + 1) 29 (smallC 0 0 0 0 false 0)) := by rw [ev]; exact Blk.at_ _ _ _ (by simp)
  have G0 : Hid (Below w.heap.size w v0) := by rw [ev]; exact (((Below.refl _ _).alloc (by omega) _).alloc (by simp) _).alloc (by simp; omega) _
  have K : Hid (∀ w', Below (w.heap.size + 1 + 1) v0 w' → SmC w' w.heap.size a b c d fl s ∧ SmC w' (w.heap.size + 1) a' b' c' d' fl' s') := fun w' hb => ⟨(B0.below hb (by omega)).smC, (B1.below hb (by omega)).smC⟩
  have EV := Lib.hid ev
  have V1 := Lib.hid (fun w => valid_num fl h w)
  have V2 := Lib.hid (fun w => valid_num fl' h' w)
  have V3 := Lib.hid (fun fb w => valid_num fb ho w)
  have M := Lib.hid M
  have A := Lib.hid A
  have k1 := r32 hx
  have CJ := Lib.hid (fun w => conj_w w a' b')
  have HSZ := Lib.hid hsz
  clear ev B0 B1 h h' hx ho hsz
  unfold smallV at *
  unfold smallC at EV
  go_enter Try.func12, Try.ntmps12
  go_wp2_with fail
  rw [← EV.out]
  refine (V1.out _).mono ?_
  rintro e w1 ⟨rfl, hb1⟩
  have G1 := Lib.hid (hb1.mono (show w.heap.size + 1 + 1 + 1 ≤ _ by rw [HSZ.out]; omega))
  obtain ⟨⟨c0, c1, c2, c3⟩, e0, e1, e2, e3⟩ := K.out w1 (G1.out.mono (by omega))
  clear hb1
  go_wp2_with fail
  refine (V2.out _).mono ?_
  rintro e w2 ⟨rfl, hb2⟩
  have G2 := Lib.hid (G1.out.trans (hb2.mono (show w.heap.size + 1 + 1 + 1 ≤ _ by have := G1.out.size; have := HSZ.out; omega)))
  clear c0 c1 c2 c3 e0 e1 e2 e3 hb2 G1
  obtain ⟨⟨c0, c1, c2, c3⟩, e0, e1, e2, e3⟩ := K.out w2 (G2.out.mono (by omega))
  have K2 : Hid (∀ w', Below (w.heap.size + 1 + 1) w2 w' → SmC w' w.heap.size a b c d fl s ∧ SmC w' (w.heap.size + 1) a' b' c' d' fl' s') := fun w' hb => K.out w' ((G2.out.mono (by omega)).trans hb)
  have S2 : Hid (w.heap.size + 1 + 1 + 1 ≤ w2.heap.size) := by have := G2.out.size; have := HSZ.out; unfold Hid; omega
  have SX : Hid (∀ w', Below (w.heap.size + 1 + 1 + 1) w2 w' → w'.cell? ⟨w.heap.size, 0, none⟩ = some (.complex .f32 a b) ∧ w'.cell? ⟨w.heap.size, 1, none⟩ = some (.complex .f32 c d) ∧ w'.cell? ⟨w.heap.size, 2, none⟩ = some (.bool fl) ∧ w'.cell? ⟨w.heap.size, 3, none⟩ = some (.float .f32 s) ∧ w'.cell? ⟨w.heap.size + 1, 1, none⟩ = some (.complex .f32 c' d') ∧ w'.cell? ⟨w.heap.size + 1, 2, none⟩ = some (.bool fl') ∧ w'.cell? ⟨w.heap.size + 1, 3, none⟩ = some (.float .f32 s') ∧ Below (w.heap.size + 1 + 1 + 1) w2 w') := fun w' hb => by
    obtain ⟨⟨k0, k1, k2, k3⟩, m0, m1, m2, m3⟩ := K2.out w' (hb.mono (by omega))
    exact ⟨k0, k1, k2, k3, m1, m2, m3, hb⟩
  have S2' : Hid (w.heap.size + 1 + 1 + 1 ≤ w2.heap.size) := S2.out
  cases fl
  · go_wp2
    go_region_held3 (fun w' => w'.cell? ⟨w.heap.size, 0, none⟩ = some (.complex .f32 a b) ∧ w'.cell? ⟨w.heap.size, 1, none⟩ = some (.complex .f32 c d) ∧ w'.cell? ⟨w.heap.size, 2, none⟩ = some (.bool false) ∧ w'.cell? ⟨w.heap.size, 3, none⟩ = some (.float .f32 s) ∧ w'.cell? ⟨w.heap.size + 1, 1, none⟩ = some (.complex .f32 c' d') ∧ w'.cell? ⟨w.heap.size + 1, 2, none⟩ = some (.bool fl') ∧ w'.cell? ⟨w.heap.size + 1, 3, none⟩ = some (.float .f32 s') ∧ Below (w.heap.size + 1 + 1 + 1) w2 w')
      (first
        | exact SX.out _ (Below.refl _ _).drew
        | exact SX.out _ ((Below.refl _ _).alloc S2'.out _).drew
        | exact SX.out _ H6.out
        | exact SX.out _ (H6.out.alloc Z6.out _)
        | exact SX.out _ (((((H6.out.alloc Z6.out _).setCell Z6.out _).setCell Z6.out _).setCell Z6.out _).setCell Z6.out _)
        | exact SX.out _ ((((H6.out.setCell S2'.out _).setCell S2'.out _).setCell S2'.out _).setCell S2'.out _)
        | go_keep)
      (first
        | (go_at_call 48; refine (M.out _).mono ?_; rintro e w5 ⟨rfl, hw5⟩)
        | (go_at_call 45; refine (A.out _).mono ?_; rintro e w6 ⟨rfl, hb6⟩
           first
           | (have H6 : Hid (Below (w.heap.size + 1 + 1 + 1) w2 w6) := (Below.refl _ _).drew.trans (hb6.mono S2'.out)
              have Z6 : Hid (w.heap.size + 1 + 1 + 1 ≤ w6.heap.size) := Nat.le_trans S2'.out (show w2.heap.size ≤ w6.heap.size from hb6.size)
              have R6 : Blk (w6.alloc (.cells #[.complex .f32 0 0, .complex .f32 0 0, .bool false, .float .f32 0] 29)) w6.heap.size 29 #[.complex .f32 0 0, .complex .f32 0 0, .bool false, .float .f32 0] := Blk.new _ _ _
              have r0 : (w6.alloc (.cells #[.complex .f32 0 0, .complex .f32 0 0, .bool false, .float .f32 0] 29)).cell? ⟨w6.heap.size, 0, none⟩ = some (.complex .f32 0 0) := R6.cell 0
              have f0 : (w6.alloc (.cells #[.complex .f32 0 0, .complex .f32 0 0, .bool false, .float .f32 0] 29)).frozen? ⟨w6.heap.size, 0, none⟩ = false := R6.frozen 0
              have r1 : (w6.alloc (.cells #[.complex .f32 0 0, .complex .f32 0 0, .bool false, .float .f32 0] 29)).cell? ⟨w6.heap.size, 1, none⟩ = some (.complex .f32 0 0) := R6.cell 1
              have f1 : (w6.alloc (.cells #[.complex .f32 0 0, .complex .f32 0 0, .bool false, .float .f32 0] 29)).frozen? ⟨w6.heap.size, 1, none⟩ = false := R6.frozen 1
              have r2 : (w6.alloc (.cells #[.complex .f32 0 0, .complex .f32 0 0, .bool false, .float .f32 0] 29)).cell? ⟨w6.heap.size, 2, none⟩ = some (.bool false) := R6.cell 2
              have f2 : (w6.alloc (.cells #[.complex .f32 0 0, .complex .f32 0 0, .bool false, .float .f32 0] 29)).frozen? ⟨w6.heap.size, 2, none⟩ = false := R6.frozen 2
              have r3 : (w6.alloc (.cells #[.complex .f32 0 0, .complex .f32 0 0, .bool false, .float .f32 0] 29)).cell? ⟨w6.heap.size, 3, none⟩ = some (.float .f32 0) := R6.cell 3
              have f3 : (w6.alloc (.cells #[.complex .f32 0 0, .complex .f32 0 0, .bool false, .float .f32 0] 29)).frozen? ⟨w6.heap.size, 3, none⟩ = false := R6.frozen 3
              have R7 := Lib.hid R6
              clear R6 hb6)
           | (have H6 : Hid (Below (w.heap.size + 1 + 1 + 1) w2 w6) := ((Below.refl _ _).alloc S2'.out _).drew.trans (hb6.mono (by show _ ≤ (w2.alloc _).heap.size; simp; have := S2'.out; omega))
              have R6 : Blk w6 w2.heap.size 29 #[.complex .f32 0 0, .complex .f32 0 0, .bool false, .float .f32 0] := (Blk.new w2 _ _).drew.below hb6 (by show _ < (w2.alloc _).heap.size; simp)
              have r0 : w6.cell? ⟨w2.heap.size, 0, none⟩ = some (.complex .f32 0 0) := R6.cell 0
              have f0 : w6.frozen? ⟨w2.heap.size, 0, none⟩ = false := R6.frozen 0
              have r1 : w6.cell? ⟨w2.heap.size, 1, none⟩ = some (.complex .f32 0 0) := R6.cell 1
              have f1 : w6.frozen? ⟨w2.heap.size, 1, none⟩ = false := R6.frozen 1
              have r2 : w6.cell? ⟨w2.heap.size, 2, none⟩ = some (.bool false) := R6.cell 2
              have f2 : w6.frozen? ⟨w2.heap.size, 2, none⟩ = false := R6.frozen 2
              have r3 : w6.cell? ⟨w2.heap.size, 3, none⟩ = some (.float .f32 0) := R6.cell 3
              have f3 : w6.frozen? ⟨w2.heap.size, 3, none⟩ = false := R6.frozen 3
              have R7 := Lib.hid R6
              clear R6 hb6)))
    all_goals
      first
      | (have R8 : Hid (Blk ((((w6.setCell ⟨w2.heap.size, 0, none⟩ (.complex .f32 p q)).setCell ⟨w2.heap.size, 1, none⟩ (.complex .f32 u v)).setCell ⟨w2.heap.size, 2, none⟩ (.bool fl')).setCell ⟨w2.heap.size, 3, none⟩ (.float .f32 x)) w2.heap.size 29 #[.complex .f32 p q, .complex .f32 u v, .bool fl', .float .f32 x]) := by
           have := (((R7.out.set_ 0 (.complex .f32 p q)).set_ 1 (.complex .f32 u v)).set_ 2 (.bool fl')).set_ 3 (.float .f32 x)
           exact Lib.hid (by simpa using this)
         have H8 : Hid (Below (w.heap.size + 1 + 1 + 1) w2 ((((w6.setCell ⟨w2.heap.size, 0, none⟩ (.complex .f32 p q)).setCell ⟨w2.heap.size, 1, none⟩ (.complex .f32 u v)).setCell ⟨w2.heap.size, 2, none⟩ (.bool fl')).setCell ⟨w2.heap.size, 3, none⟩ (.float .f32 x))) := ((((H6.out.setCell S2'.out _).setCell S2'.out _).setCell S2'.out _).setCell S2'.out _)
         generalize ((((w6.setCell ⟨w2.heap.size, 0, none⟩ (.complex .f32 p q)).setCell ⟨w2.heap.size, 1, none⟩ (.complex .f32 u v)).setCell ⟨w2.heap.size, 2, none⟩ (.bool fl')).setCell ⟨w2.heap.size, 3, none⟩ (.float .f32 x)) = w7 at *
         generalize w2.heap.size = g7 at R8 ⊢)
      | (have R8 : Hid (Blk (w6.alloc (.cells #[.complex .f32 p q, .complex .f32 u v, .bool fl', .float .f32 x] 29)) w6.heap.size 29 #[.complex .f32 p q, .complex .f32 u v, .bool fl', .float .f32 x]) := Lib.hid (Blk.new _ _ _)
         have H8 : Hid (Below (w.heap.size + 1 + 1 + 1) w2 (w6.alloc (.cells #[.complex .f32 p q, .complex .f32 u v, .bool fl', .float .f32 x] 29))) := (H6.out.alloc Z6.out _)
         generalize w6.alloc (.cells #[.complex .f32 p q, .complex .f32 u v, .bool fl', .float .f32 x] 29) = w7 at *
         generalize w6.heap.size = g7 at R8 ⊢)
      clear r0 r1 r2 r3 f0 f1 f2 f3 R7 H6
      have Q7 := Lib.hid (B2.out.below (G2.out.trans H8.out) (by have := HSZ.out; omega))
      have P7 := Lib.hid (G0.out.trans ((G2.out.trans H8.out).mono (by omega)))
      obtain ⟨m0, m1, m2, m3⟩ := Blk.smC (show Blk _ _ _ (smallC p q u v fl' x) from R8.out)
      go_wp2_with fail
      refine (V3.out fl' _).mono ?_
      rintro e w9 ⟨rfl, hb9⟩
      have R9 := Lib.hid (R8.out.below hb9 R8.out.lt)
      have Q9 := Lib.hid (Q7.out.below hb9 Q7.out.lt)
      have P9 := Lib.hid (P7.out.trans (hb9.mono P7.out.size))
      clear hb9
      clear m0 m1 m2 m3
      obtain ⟨m0, m1, m2, m3⟩ := Blk.smC (show Blk _ _ _ (smallC p q u v fl' x) from R9.out)
      have o0 : w9.cell? ⟨w.heap.size + 1 + 1, 0, none⟩ = some (.complex .f32 0 0) := Q9.out.cell 0
      have f0 : w9.frozen? ⟨w.heap.size + 1 + 1, 0, none⟩ = false := Q9.out.frozen 0
      have o1 : w9.cell? ⟨w.heap.size + 1 + 1, 1, none⟩ = some (.complex .f32 0 0) := Q9.out.cell 1
      have f1 : w9.frozen? ⟨w.heap.size + 1 + 1, 1, none⟩ = false := Q9.out.frozen 1
      have o2 : w9.cell? ⟨w.heap.size + 1 + 1, 2, none⟩ = some (.bool false) := Q9.out.cell 2
      have f2 : w9.frozen? ⟨w.heap.size + 1 + 1, 2, none⟩ = false := Q9.out.frozen 2
      have o3 : w9.cell? ⟨w.heap.size + 1 + 1, 3, none⟩ = some (.float .f32 0) := Q9.out.cell 3
      have f3 : w9.frozen? ⟨w.heap.size + 1 + 1, 3, none⟩ = false := Q9.out.frozen 3
      have Q10 : Hid (Blk ((((w9.setCell ⟨w.heap.size + 1 + 1, 0, none⟩ (.complex .f32 p q)).setCell ⟨w.heap.size + 1 + 1, 1, none⟩ (.complex .f32 u v)).setCell ⟨w.heap.size + 1 + 1, 2, none⟩ (.bool fl')).setCell ⟨w.heap.size + 1 + 1, 3, none⟩ (.float .f32 x)) (w.heap.size + 1 + 1) 29 #[.complex .f32 p q, .complex .f32 u v, .bool fl', .float .f32 x]) := by
        have := (((Q9.out.set_ 0 (.complex .f32 p q)).set_ 1 (.complex .f32 u v)).set_ 2 (.bool fl')).set_ 3 (.float .f32 x)
        exact Lib.hid (by simpa [smallC] using this)
      have P10 : Hid (Below w.heap.size w ((((w9.setCell ⟨w.heap.size + 1 + 1, 0, none⟩ (.complex .f32 p q)).setCell ⟨w.heap.size + 1 + 1, 1, none⟩ (.complex .f32 u v)).setCell ⟨w.heap.size + 1 + 1, 2, none⟩ (.bool fl')).setCell ⟨w.heap.size + 1 + 1, 3, none⟩ (.float .f32 x))) := ((((P9.out.setCell (by show _ ≤ w.heap.size + 1 + 1; omega) _).setCell (by show _ ≤ w.heap.size + 1 + 1; omega) _).setCell (by show _ ≤ w.heap.size + 1 + 1; omega) _).setCell (by show _ ≤ w.heap.size + 1 + 1; omega) _)
      go_wp2
      refine bodyPost_ret (res_row2 rfl _ _ (w.heap.size + 1 + 1) 29 _ _ rfl Q10.out Try.underlying29 rfl (by kernel_rfl) _ rfl) rfl ?_
      exact ⟨by cases fl' <;> rfl, P10.out⟩
  · go_wp2_with fail
    refine (CJ.out _).mono ?_
    rintro e wc ⟨rfl, hwc⟩
    obtain rfl := hwc.symm
    go_wp2
    go_region_held3 (fun w' => w'.cell? ⟨w.heap.size, 0, none⟩ = some (.complex .f32 a b) ∧ w'.cell? ⟨w.heap.size, 1, none⟩ = some (.complex .f32 c d) ∧ w'.cell? ⟨w.heap.size, 2, none⟩ = some (.bool true) ∧ w'.cell? ⟨w.heap.size, 3, none⟩ = some (.float .f32 s) ∧ w'.cell? ⟨w.heap.size + 1, 1, none⟩ = some (.complex .f32 c' d') ∧ w'.cell? ⟨w.heap.size + 1, 2, none⟩ = some (.bool fl') ∧ w'.cell? ⟨w.heap.size + 1, 3, none⟩ = some (.float .f32 s') ∧ Below (w.heap.size + 1 + 1 + 1) w2 w')
      (first
        | exact SX.out _ (Below.refl _ _).drew
        | exact SX.out _ ((Below.refl _ _).alloc S2'.out _).drew
        | exact SX.out _ H6.out
        | exact SX.out _ (H6.out.alloc Z6.out _)
        | exact SX.out _ (((((H6.out.alloc Z6.out _).setCell Z6.out _).setCell Z6.out _).setCell Z6.out _).setCell Z6.out _)
        | exact SX.out _ ((((H6.out.setCell S2'.out _).setCell S2'.out _).setCell S2'.out _).setCell S2'.out _)
        | go_keep)
      (first
        | (go_at_call 48; refine (M.out _).mono ?_; rintro e w5 ⟨rfl, hw5⟩)
        | (go_at_call 45; refine (A.out _).mono ?_; rintro e w6 ⟨rfl, hb6⟩
           first
           | (have H6 : Hid (Below (w.heap.size + 1 + 1 + 1) w2 w6) := (Below.refl _ _).drew.trans (hb6.mono S2'.out)
              have Z6 : Hid (w.heap.size + 1 + 1 + 1 ≤ w6.heap.size) := Nat.le_trans S2'.out (show w2.heap.size ≤ w6.heap.size from hb6.size)
              have R6 : Blk (w6.alloc (.cells #[.complex .f32 0 0, .complex .f32 0 0, .bool false, .float .f32 0] 29)) w6.heap.size 29 #[.complex .f32 0 0, .complex .f32 0 0, .bool false, .float .f32 0] := Blk.new _ _ _
              have r0 : (w6.alloc (.cells #[.complex .f32 0 0, .complex .f32 0 0, .bool false, .float .f32 0] 29)).cell? ⟨w6.heap.size, 0, none⟩ = some (.complex .f32 0 0) := R6.cell 0
              have f0 : (w6.alloc (.cells #[.complex .f32 0 0, .complex .f32 0 0, .bool false, .float .f32 0] 29)).frozen? ⟨w6.heap.size, 0, none⟩ = false := R6.frozen 0
              have r1 : (w6.alloc (.cells #[.complex .f32 0 0, .complex .f32 0 0, .bool false, .float .f32 0] 29)).cell? ⟨w6.heap.size, 1, none⟩ = some (.complex .f32 0 0) := R6.cell 1
              have f1 : (w6.alloc (.cells #[.complex .f32 0 0, .complex .f32 0 0, .bool false, .float .f32 0] 29)).frozen? ⟨w6.heap.size, 1, none⟩ = false := R6.frozen 1
              have r2 : (w6.alloc (.cells #[.complex .f32 0 0, .complex .f32 0 0, .bool false, .float .f32 0] 29)).cell? ⟨w6.heap.size, 2, none⟩ = some (.bool false) := R6.cell 2
              have f2 : (w6.alloc (.cells #[.complex .f32 0 0, .complex .f32 0 0, .bool false, .float .f32 0] 29)).frozen? ⟨w6.heap.size, 2, none⟩ = false := R6.frozen 2
              have r3 : (w6.alloc (.cells #[.complex .f32 0 0, .complex .f32 0 0, .bool false, .float .f32 0] 29)).cell? ⟨w6.heap.size, 3, none⟩ = some (.float .f32 0) := R6.cell 3
              have f3 : (w6.alloc (.cells #[.complex .f32 0 0, .complex .f32 0 0, .bool false, .float .f32 0] 29)).frozen? ⟨w6.heap.size, 3, none⟩ = false := R6.frozen 3
              have R7 := Lib.hid R6
              clear R6 hb6)
           | (have H6 : Hid (Below (w.heap.size + 1 + 1 + 1) w2 w6) := ((Below.refl _ _).alloc S2'.out _).drew.trans (hb6.mono (by show _ ≤ (w2.alloc _).heap.size; simp; have := S2'.out; omega))
              have R6 : Blk w6 w2.heap.size 29 #[.complex .f32 0 0, .complex .f32 0 0, .bool false, .float .f32 0] := (Blk.new w2 _ _).drew.below hb6 (by show _ < (w2.alloc _).heap.size; simp)
              have r0 : w6.cell? ⟨w2.heap.size, 0, none⟩ = some (.complex .f32 0 0) := R6.cell 0
              have f0 : w6.frozen? ⟨w2.heap.size, 0, none⟩ = false := R6.frozen 0
              have r1 : w6.cell? ⟨w2.heap.size, 1, none⟩ = some (.complex .f32 0 0) := R6.cell 1
              have f1 : w6.frozen? ⟨w2.heap.size, 1, none⟩ = false := R6.frozen 1
              have r2 : w6.cell? ⟨w2.heap.size, 2, none⟩ = some (.bool false) := R6.cell 2
              have f2 : w6.frozen? ⟨w2.heap.size, 2, none⟩ = false := R6.frozen 2
              have r3 : w6.cell? ⟨w2.heap.size, 3, none⟩ = some (.float .f32 0) := R6.cell 3
              have f3 : w6.frozen? ⟨w2.heap.size, 3, none⟩ = false := R6.frozen 3
              have R7 := Lib.hid R6
              clear R6 hb6)))
    all_goals
      first
      | (have R8 : Hid (Blk ((((w6.setCell ⟨w2.heap.size, 0, none⟩ (.complex .f32 p q)).setCell ⟨w2.heap.size, 1, none⟩ (.complex .f32 u v)).setCell ⟨w2.heap.size, 2, none⟩ (.bool (!fl'))).setCell ⟨w2.heap.size, 3, none⟩ (.float .f32 x)) w2.heap.size 29 #[.complex .f32 p q, .complex .f32 u v, .bool (!fl'), .float .f32 x]) := by
           have := (((R7.out.set_ 0 (.complex .f32 p q)).set_ 1 (.complex .f32 u v)).set_ 2 (.bool (!fl'))).set_ 3 (.float .f32 x)
           exact Lib.hid (by simpa using this)
         have H8 : Hid (Below (w.heap.size + 1 + 1 + 1) w2 ((((w6.setCell ⟨w2.heap.size, 0, none⟩ (.complex .f32 p q)).setCell ⟨w2.heap.size, 1, none⟩ (.complex .f32 u v)).setCell ⟨w2.heap.size, 2, none⟩ (.bool (!fl'))).setCell ⟨w2.heap.size, 3, none⟩ (.float .f32 x))) := ((((H6.out.setCell S2'.out _).setCell S2'.out _).setCell S2'.out _).setCell S2'.out _)
         generalize ((((w6.setCell ⟨w2.heap.size, 0, none⟩ (.complex .f32 p q)).setCell ⟨w2.heap.size, 1, none⟩ (.complex .f32 u v)).setCell ⟨w2.heap.size, 2, none⟩ (.bool (!fl'))).setCell ⟨w2.heap.size, 3, none⟩ (.float .f32 x)) = w7 at *
         generalize w2.heap.size = g7 at R8 ⊢)
      | (have R8 : Hid (Blk (w6.alloc (.cells #[.complex .f32 p q, .complex .f32 u v, .bool (!fl'), .float .f32 x] 29)) w6.heap.size 29 #[.complex .f32 p q, .complex .f32 u v, .bool (!fl'), .float .f32 x]) := Lib.hid (Blk.new _ _ _)
         have H8 : Hid (Below (w.heap.size + 1 + 1 + 1) w2 (w6.alloc (.cells #[.complex .f32 p q, .complex .f32 u v, .bool (!fl'), .float .f32 x] 29))) := (H6.out.alloc Z6.out _)
         generalize w6.alloc (.cells #[.complex .f32 p q, .complex .f32 u v, .bool (!fl'), .float .f32 x] 29) = w7 at *
         generalize w6.heap.size = g7 at R8 ⊢)
      clear r0 r1 r2 r3 f0 f1 f2 f3 R7 H6
      have Q7 := Lib.hid (B2.out.below (G2.out.trans H8.out) (by have := HSZ.out; omega))
      have P7 := Lib.hid (G0.out.trans ((G2.out.trans H8.out).mono (by omega)))
      obtain ⟨m0, m1, m2, m3⟩ := Blk.smC (show Blk _ _ _ (smallC p q u v (!fl') x) from R8.out)
      go_wp2_with fail
      refine (V3.out (!fl') _).mono ?_
      rintro e w9 ⟨rfl, hb9⟩
      have R9 := Lib.hid (R8.out.below hb9 R8.out.lt)
      have Q9 := Lib.hid (Q7.out.below hb9 Q7.out.lt)
      have P9 := Lib.hid (P7.out.trans (hb9.mono P7.out.size))
      clear hb9
      clear m0 m1 m2 m3
      obtain ⟨m0, m1, m2, m3⟩ := Blk.smC (show Blk _ _ _ (smallC p q u v (!fl') x) from R9.out)
      have o0 : w9.cell? ⟨w.heap.size + 1 + 1, 0, none⟩ = some (.complex .f32 0 0) := Q9.out.cell 0
      have f0 : w9.frozen? ⟨w.heap.size + 1 + 1, 0, none⟩ = false := Q9.out.frozen 0
      have o1 : w9.cell? ⟨w.heap.size + 1 + 1, 1, none⟩ = some (.complex .f32 0 0) := Q9.out.cell 1
      have f1 : w9.frozen? ⟨w.heap.size + 1 + 1, 1, none⟩ = false := Q9.out.frozen 1
      have o2 : w9.cell? ⟨w.heap.size + 1 + 1, 2, none⟩ = some (.bool false) := Q9.out.cell 2
      have f2 : w9.frozen? ⟨w.heap.size + 1 + 1, 2, none⟩ = false := Q9.out.frozen 2
      have o3 : w9.cell? ⟨w.heap.size + 1 + 1, 3, none⟩ = some (.float .f32 0) := Q9.out.cell 3
      have f3 : w9.frozen? ⟨w.heap.size + 1 + 1, 3, none⟩ = false := Q9.out.frozen 3
      have Q10 : Hid (Blk ((((w9.setCell ⟨w.heap.size + 1 + 1, 0, none⟩ (.complex .f32 p q)).setCell ⟨w.heap.size + 1 + 1, 1, none⟩ (.complex .f32 u v)).setCell ⟨w.heap.size + 1 + 1, 2, none⟩ (.bool (!fl'))).setCell ⟨w.heap.size + 1 + 1, 3, none⟩ (.float .f32 x)) (w.heap.size + 1 + 1) 29 #[.complex .f32 p q, .complex .f32 u v, .bool (!fl'), .float .f32 x]) := by
        have := (((Q9.out.set_ 0 (.complex .f32 p q)).set_ 1 (.complex .f32 u v)).set_ 2 (.bool (!fl'))).set_ 3 (.float .f32 x)
        exact Lib.hid (by simpa [smallC] using this)
      have P10 : Hid (Below w.heap.size w ((((w9.setCell ⟨w.heap.size + 1 + 1, 0, none⟩ (.complex .f32 p q)).setCell ⟨w.heap.size + 1 + 1, 1, none⟩ (.complex .f32 u v)).setCell ⟨w.heap.size + 1 + 1, 2, none⟩ (.bool (!fl'))).setCell ⟨w.heap.size + 1 + 1, 3, none⟩ (.float .f32 x))) := ((((P9.out.setCell (by show _ ≤ w.heap.size + 1 + 1; omega) _).setCell (by show _ ≤ w.heap.size + 1 + 1; omega) _).setCell (by show _ ≤ w.heap.size + 1 + 1; omega) _).setCell (by show _ ≤ w.heap.size + 1 + 1; omega) _)
      go_wp2
      refine bodyPost_ret (res_row2 rfl _ _ (w.heap.size + 1 + 1) 29 _ _ rfl Q10.out Try.underlying29 rfl (by kernel_rfl) _ rfl) rfl ?_
      exact ⟨by cases fl' <;> rfl, P10.out⟩
end Go.Proofs.Ytbpgbplepebcjaa

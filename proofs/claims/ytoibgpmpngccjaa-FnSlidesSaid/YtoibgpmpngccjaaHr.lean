/- Walk: many drops, by the reference. Conditions: as each says. -/
import Derived.Test.YtoibgpmpngccjaaHq
namespace Go.Proofs.Ytoibgpmpngccjaa
open Go.RowKit

def nxt (s : Nat) : Nat := (1103515245 * s + 12345) % 2147483648
theorem nxt_lt (s : Nat) : nxt s ≤ 2147483647 := by unfold nxt; omega
theorem nxt_cast (s : Nat) : ((1103515245 * (s : Int) + 12345) % 2147483648) = ((nxt s : Nat) : Int) := by unfold nxt; omega
def dpx (s n : Nat) : Nat := s / 65536 % n
theorem dpx_cast (s n : Nat) : (s : Int) / 65536 % (n : Int) = ((dpx s n : Nat) : Int) := by unfold dpx; simp
theorem ret_int {k : IntKind} {a b : Int} (h : a = b) : Ending.returned (.int k a) = .returned (.int k b) := by rw [h]
/-- Where the next drop falls. -/
def placeAt (W H s : Nat) : Nat := dpx (nxt (nxt s)) H * W + dpx (nxt s) W
theorem placeAt_lt {W H : Nat} (hW : 1 ≤ W) (hH : 1 ≤ H) (s : Nat) : placeAt W H s < W * H := place_lt (Nat.mod_lt _ (by omega)) (Nat.mod_lt _ (by omega))
/-- Many drops: the heights and the seed then; or none, where a height is not finite any more. -/
inductive Many (nx : List Nat → Nat → Option Nat) (W H tk lv st : Nat) : Nat → List Nat → Nat → Option (List Nat × Nat) → Prop
  | done {C s} : Many nx W H tk lv st 0 C s (some (C, s))
  | good {k C s Cf m r} : Run nx tk lv st C (placeAt W H s) 0 Cf m → Cf.all finW = true → Many nx W H tk lv st k Cf (nxt (nxt s)) r → Many nx W H tk lv st (k + 1) C s r
  | bad {k C s Cf m} : Run nx tk lv st C (placeAt W H s) 0 Cf m → Cf.all finW = false → Many nx W H tk lv st (k + 1) C s none
theorem many_len {nx : List Nat → Nat → Option Nat} {W H tk lv st k : Nat} {C : List Nat} {s : Nat} {r : Option (List Nat × Nat)} (h : Many nx W H tk lv st k C s r) : ∀ p, r = some p → p.1.length = C.length := by
  induction h with
  | done => intro p e; injection e with e; rw [← e]
  | good hr _ _ ih => intro p e; rw [ih p e, run_len hr]
  | bad _ _ => intro p e; cases e
theorem many_det {W H tk lv st : Nat} (hW : 1 ≤ W) (hH : 1 ≤ H) {nx nx' : List Nat → Nat → Option Nat} (o : NxOk W H nx) (o' : NxOk W H nx') {k : Nat} {C : List Nat} {s : Nat} {r : Option (List Nat × Nat)} (h : Many nx W H tk lv st k C s r) :
    C.length = W * H → C.all finW = true → ∀ {r' : Option (List Nat × Nat)}, Many nx' W H tk lv st k C s r' → r = r' := by
  induction h with
  | done =>
    intro _ _ r' h'
    cases h'
    rfl
  | good hr hf _ ih =>
    intro hl hfin r' h'
    cases h' with
    | good hr' hf' h'' =>
      rcases run_det o o' hl (placeAt_lt hW hH _) hfin hr hr' with ⟨rfl, _⟩ | ⟨b, _⟩
      · exact ih (by rw [run_len hr]; exact hl) hf h''
      · rw [hf] at b
        cases b
    | bad hr' hf' =>
      rcases run_det o o' hl (placeAt_lt hW hH _) hfin hr hr' with ⟨rfl, _⟩ | ⟨b, _⟩
      · rw [hf] at hf'
        cases hf'
      · rw [hf] at b
        cases b
  | bad hr hf =>
    intro hl hfin r' h'
    cases h' with
    | good hr' hf' h'' =>
      rcases run_det o o' hl (placeAt_lt hW hH _) hfin hr hr' with ⟨rfl, _⟩ | ⟨_, b⟩
      · rw [hf] at hf'
        cases hf'
      · rw [hf'] at b
        cases b
    | bad _ _ => rfl
/-- What many drops give. -/
def DsRes (nx : List Nat → Nat → Option Nat) (W H tk lv st k s : Nat) (xs : List Nat) (w : World) (e : Ending) (w' : World) : Prop :=
  (∃ Hf s', Many nx W H tk lv st k xs s (some (Hf, s')) ∧ SrRes W H Hf (s' : Nat) true w e w') ∨ (Many nx W H tk lv st k xs s none ∧ SrRes 0 0 [] 0 false w e w')
set_option maxHeartbeats 400000 in
theorem l05Next_any (s : Nat) (w : World) (hs : s ≤ 2147483647) : Calls Try.prog 38 #[.int .i64 (s : Int)] w fun e w' => e = .returned (.int .i64 (nxt s : Nat)) ∧ w' = w := by
  have e1 := nxt_cast s
  obtain ⟨x, ex⟩ : ∃ x, nxt s = x := ⟨_, rfl⟩
  rw [ex] at e1 ⊢
  clear ex
  go_enter Try.func38, Try.ntmps38
  go_wp2
  go_ret
  exact ⟨ret_int e1, rfl⟩
set_option maxHeartbeats 400000 in
theorem nextSeed_any (s : Nat) (w : World) (hs : s ≤ 2147483647) : Calls Try.prog 32 #[.int .i64 (s : Int)] w fun e w' => e = .returned (.int .i64 (nxt s : Nat)) ∧ w' = w := by
  have e1 := nxt_cast s
  obtain ⟨x, ex⟩ : ∃ x, nxt s = x := ⟨_, rfl⟩
  rw [ex] at e1 ⊢
  clear ex
  go_enter Try.func32, Try.ntmps32
  go_wp2
  go_ret
  exact ⟨ret_int e1, rfl⟩
set_option maxHeartbeats 400000 in
theorem l05Seed_any (s : Int) (w : World) : Calls Try.prog 36 #[.int .i64 s] w fun e w' => e = .returned (.bool (inB s 0 2147483647)) ∧ w' = w := by
  go_enter Try.func36, Try.ntmps36
  go_wp2_with (go_at_call 34; refine (l00In_any _ _ _ _).mono ?_; rintro e w' ⟨rfl, rfl⟩)
  go_ret
  exact ⟨rfl, rfl⟩
set_option maxHeartbeats 400000 in
theorem isSeed_any (s : Int) (w : World) : Calls Try.prog 31 #[.int .i64 s] w fun e w' => e = .returned (.bool (inB s 0 2147483647)) ∧ w' = w := by
  go_enter Try.func31, Try.ntmps31
  go_wp2_with (go_at_call 29; refine (within_any _ _ _ _).mono ?_; rintro e w' ⟨rfl, rfl⟩)
  go_ret
  exact ⟨rfl, rfl⟩
set_option maxRecDepth 100000 in
set_option maxHeartbeats 8000000 in
theorem specDropsOn_ok (W H N k0 s0 st tk lv : Nat) (A : Option Addr) (c : Nat) (xs : List Nat) (w : World) (h1 : 1 ≤ W) (h2 : W ≤ 17) (h3 : 1 ≤ H) (h4 : H ≤ 17) (hN : W * H = N) (hl : xs.length = N) (hk : k0 ≤ 128) (hst : st ≤ 128) (hs : s0 ≤ 2147483647) (hr : (okTake tk && okShare lv) = true) (hf : xs.all finW = true)
    (hA : Rd w w.heap.size 1 A N (xs.map fv)) :
    Calls Try.prog 12 #[sheetV (W : Int) (H : Int) A N c, .int .i64 (k0 : Int), .int .i64 (st : Int), .float .f32 tk, .float .f32 lv, .int .i64 (s0 : Int)] w (DsRes (nxS W H) W H tk lv st k0 s0 xs w) := by
  have hN289 : N ≤ 289 := by have := Nat.mul_le_mul h2 h4; omega
  have hN1 : 1 ≤ N := by have := Nat.mul_le_mul h1 h3; omega
  obtain ⟨v, ev⟩ : ∃ v, v = (w.alloc (.cells #[.int .i64 (W : Int), .int .i64 (H : Int), .slice A N c] 26)).alloc (.cells #[.int .i64 0, .int .i64 0, .slice none 0 0] 26) := ⟨_, rfl⟩
  have K0 : Blk v w.heap.size 26 #[.int .i64 (W : Int), .int .i64 (H : Int), .slice A N c] := by rw [ev]; exact (Blk.new w _ _).alloc _
  have R0 : Hid (Blk v (w.heap.size + 1) 26 #[.int .i64 0, .int .i64 0, .slice none 0 0]) := by rw [ev]; exact Blk.new2 _ _ _ _
  have V0 : Hid (Below w.heap.size w v) := by rw [ev]; exact ((Below.refl _ _).alloc (Nat.le_refl _) _).alloc (by simp) _
  have A0 : Rd v v.heap.size 1 A N (xs.map fv) := (hA.below V0.out).more V0.out.size
  have IS := l05Is_any (W : Int) (H : Int) A N c w.heap.size v.heap.size xs v (by unfold maxLen; omega) K0 A0
  rw [okSheet_len h1 h2 h3 h4 (by rw [hN]; exact hl), hf] at IS
  have IS0 := Lib.hid IS
  have L1 : Hid (∀ w, Calls Try.prog 34 #[.int .i64 (k0 : Int), .int .i64 0, .int .i64 128] w fun e w' => e = .returned (.bool true) ∧ w' = w) := fun w => by
    have := l00In_any (k0 : Int) 0 128 w
    rwa [inB_iff.2 ⟨by omega, by omega⟩] at this
  have L2 : Hid (∀ w, Calls Try.prog 34 #[.int .i64 (st : Int), .int .i64 0, .int .i64 128] w fun e w' => e = .returned (.bool true) ∧ w' = w) := fun w => by
    have := l00In_any (st : Int) 0 128 w
    rwa [inB_iff.2 ⟨by omega, by omega⟩] at this
  have L3 : Hid (∀ w, Calls Try.prog 35 #[.float .f32 tk, .float .f32 lv] w fun e w' => e = .returned (.bool true) ∧ w' = w) := fun w => by
    have := l05Rule_any tk lv w
    rwa [hr] at this
  have L4 : Hid (∀ w, Calls Try.prog 36 #[.int .i64 (s0 : Int)] w fun e w' => e = .returned (.bool true) ∧ w' = w) := fun w => by
    have := l05Seed_any (s0 : Int) w
    rwa [inB_iff.2 ⟨by omega, by omega⟩] at this
  have NX := Lib.hid (fun s w (h : s ≤ 2147483647) => l05Next_any s w h)
  have KV := Lib.hid K0
  have AV := Lib.hid A0
  have EV := Lib.hid ev
  have HL := Lib.hid hl
  have HN := Lib.hid hN
  have HF := Lib.hid hf
  have hvz : v.heap.size = w.heap.size + 2 := by rw [ev]; simp
  have hgl : w.heap.size < v.heap.size := by omega
  unfold sheetV
  clear ev IS K0 A0 hA hl hr hf hN
  go_enter Try.func12, Try.ntmps12
  go_wp2_with fail
  rw [← EV.out]
  refine IS0.out.mono ?_
  rintro e w1 ⟨rfl, m1, hw1⟩
  have K1 : Hid (Blk w1 w.heap.size 26 #[.int .i64 (W : Int), .int .i64 (H : Int), .slice A N c]) := by rw [hw1]; exact KV.out.drewN _
  have R1 : Hid (Blk w1 (w.heap.size + 1) 26 #[.int .i64 0, .int .i64 0, .slice none 0 0]) := by rw [hw1]; exact R0.out.drewN _
  have V1 : Hid (Below w.heap.size w w1) := by rw [hw1]; exact below_drewN' V0.out _
  have A1 : Hid (Rd w1 w1.heap.size 1 A N (xs.map fv)) := by rw [hw1]; exact AV.out
  have z1 : w1.heap.size = v.heap.size := by rw [hw1]; rfl
  clear hw1 IS0 R0 V0 AV KV EV
  go_wp2_with fail
  refine (L1.out _).mono ?_
  rintro e w' ⟨rfl, rfl⟩
  go_wp2_with fail
  refine (L2.out _).mono ?_
  rintro e w' ⟨rfl, rfl⟩
  go_wp2_with fail
  refine (L3.out _).mono ?_
  rintro e w' ⟨rfl, rfl⟩
  go_wp2_with fail
  refine (L4.out _).mono ?_
  rintro e w' ⟨rfl, rfl⟩
  have OW := Lib.hid (l05Own_any (W : Int) (H : Int) N A c w.heap.size xs w' hN1 hN289 HL.out K1.out A1.out)
  unfold SheetOut sheetV at OW
  go_wp2_with fail
  refine OW.out.mono ?_
  rintro e u2 ⟨A2, c2, rfl, ho, hb⟩
  obtain ⟨gr, cap, hv, _, hgr⟩ := ho.form (by omega)
  obtain ⟨rfl, rfl⟩ : A2 = some ⟨gr, 0, none⟩ ∧ c2 = cap := by injection hv with q1 _ q3; exact ⟨q1, q3⟩
  obtain ⟨bs, ebs⟩ : ∃ bs, w'.heap.size = bs := ⟨_, rfl⟩
  rw [ebs] at ho
  have hbase : w.heap.size ≤ bs := by rw [← ebs]; exact V1.out.size
  obtain ⟨w3, ew3⟩ : ∃ w3, w3 = u2.alloc (.cells #[.int .i64 (W : Int), .int .i64 (H : Int), .slice (some ⟨gr, 0, none⟩) N c2] 26) := ⟨_, rfl⟩
  have K3 : Hid (Blk w3 u2.heap.size 26 #[.int .i64 (W : Int), .int .i64 (H : Int), .slice (some ⟨gr, 0, none⟩) N c2]) := by rw [ew3]; exact Blk.new _ _ _
  have R3 : Hid (Blk w3 (w.heap.size + 1) 26 #[.int .i64 0, .int .i64 0, .slice none 0 0]) := by rw [ew3]; exact (R1.out.below hb R1.out.lt).alloc _
  have Q3 : Hid (Blk w3 w.heap.size 26 #[.int .i64 (W : Int), .int .i64 (H : Int), .slice A N c]) := by rw [ew3]; exact (K1.out.below hb K1.out.lt).alloc _
  have O3 : Hid (w3.ownsRow bs 30 1 (.slice (some ⟨gr, 0, none⟩) N c2) N (xs.map fv)) := by rw [ew3]; exact ho.alloc _
  have V3 : Hid (Below w.heap.size w w3) := by rw [ew3]; exact (V1.out.trans (hb.mono V1.out.size)).alloc (Nat.le_trans V1.out.size hb.size) _
  have E3 := Lib.hid ew3
  obtain ⟨g2, eg2⟩ : ∃ g2, u2.heap.size = g2 := ⟨_, rfl⟩
  rw [eg2] at K3
  clear ho hb ew3 hv K1 R1 V1 OW A1 ebs 
  go_wp2
  rw [← E3.out]
  clear E3 eg2
  go_loopw [1, 5] (fun sk ss wr => ∃ (k s : Nat) (C : List Nat), sk = .int .i64 (k : Int) ∧ ss = .int .i64 (s : Int) ∧ k ≤ k0 ∧ s ≤ 2147483647 ∧ Hid (C.length = N) ∧ Hid (C.all finW = true) ∧ Hid (∀ r, Many (nxS W H) W H tk lv st k C s r → Many (nxS W H) W H tk lv st k0 xs s0 r) ∧
    Hid (Blk wr g2 26 #[.int .i64 (W : Int), .int .i64 (H : Int), .slice (some ⟨gr, 0, none⟩) N c2]) ∧ Hid (Blk wr (w.heap.size + 1) 26 #[.int .i64 0, .int .i64 0, .slice none 0 0]) ∧ Hid (Blk wr w.heap.size 26 #[.int .i64 (W : Int), .int .i64 (H : Int), .slice A N c]) ∧ Hid (wr.ownsRow bs 30 1 (.slice (some ⟨gr, 0, none⟩) N c2) N (C.map fv)) ∧ Hid (Below w.heap.size w wr)) (fun sk _ _ => (intOf sk).toNat)
  case atStart => exact ⟨k0, s0, xs, rfl, rfl, Nat.le_refl _, hs, HL.out, HF.out, fun r h => h, K3.out, R3.out, Q3.out, O3.out, V3.out⟩
  case round =>
    clear K3 R3 Q3 O3 V3 HL HF
    obtain ⟨k, s, C, rfl, rfl, hk1, hs1, HL, HF, HM, K, R, Q, O, V⟩ := hrel
    have c0 : wr.cell? ⟨w.heap.size, 0, none⟩ = some (.int .i64 (W : Int)) := Q.out.cell 0
    have c1 : wr.cell? ⟨w.heap.size, 1, none⟩ = some (.int .i64 (H : Int)) := Q.out.cell 1
    by_cases hlt : 0 < k
    · have N1 := Lib.hid (NX.out s wr hs1)
      have N2 := Lib.hid (NX.out (nxt s) wr (nxt_lt s))
      have hs2 := nxt_lt s
      have hs3 := nxt_lt (nxt s)
      have ex := dpx_cast (nxt s) W
      have ey := dpx_cast (nxt (nxt s)) H
      have hxW : dpx (nxt s) W < W := Nat.mod_lt _ (by omega)
      have hyH : dpx (nxt (nxt s)) H < H := Nat.mod_lt _ (by omega)
      have hpl := placeAt_lt h1 h3 s
      have HPL : Hid (placeAt W H s = dpx (nxt (nxt s)) H * W + dpx (nxt s) W) := rfl
      have HGOOD := Lib.hid (fun Cf m r => @Many.good (nxS W H) W H tk lv st (k - 1) C s Cf m r)
      have HBAD := Lib.hid (fun Cf m => @Many.bad (nxS W H) W H tk lv st (k - 1) C s Cf m)
      obtain ⟨a, ea⟩ : ∃ a, placeAt W H s = a := ⟨_, rfl⟩
      rw [ea] at hpl HPL HGOOD HBAD
      rw [HN.out] at hpl
      obtain ⟨s2, es2⟩ : ∃ s2, nxt (nxt s) = s2 := ⟨_, rfl⟩
      rw [es2] at N2 hs3 ey hyH HPL HGOOD
      obtain ⟨s1, es1⟩ : ∃ s1, nxt s = s1 := ⟨_, rfl⟩
      rw [es1] at N1 N2 hs2 ex hxW HPL
      obtain ⟨px, epx⟩ : ∃ px, dpx s1 W = px := ⟨_, rfl⟩
      obtain ⟨py, epy⟩ : ∃ py, dpx s2 H = py := ⟨_, rfl⟩
      rw [epx] at ex hxW HPL
      rw [epy] at ey hyH HPL
      have hpW : ((py * W : Nat) : Int) = (py : Int) * (W : Int) := by simp
      obtain ⟨P, eP⟩ : ∃ P, py * W = P := ⟨_, rfl⟩
      rw [eP] at hpW HPL
      have hmul : (py : Int) * (W : Int) = (P : Int) := hpW.symm
      have hPa : P + px = a := HPL.out.symm
      have hPle : P + px < N := by omega
      have DC : Hid (Calls Try.prog 39 #[.pointer (some ⟨g2, 0, none⟩), .int .i64 ((P : Int) + (px : Int)), .int .i64 (st : Int), .float .f32 tk, .float .f32 lv] wr fun e w'' => ∃ Hf m, e = .returned (.int .i64 ((m : Nat) : Int)) ∧ m ≤ st ∧ Run (nxS W H) tk lv st C a 0 Hf m ∧
          w''.ownsRow bs 30 1 (.slice (some ⟨gr, 0, none⟩) N c2) N (Hf.map fv) ∧ wr.grownBy w'' (some gr)) := by
        have := l05Drop_any W H gr c2 g2 bs (P + px) st tk lv C wr h1 h2 h3 h4 (by rw [HN.out]; exact HL.out) (by rw [HN.out]; exact hPle) hst (by rw [HN.out]; exact K.out) (by rw [HN.out]; exact O.out)
        rw [HN.out, Int.natCast_add] at this
        rwa [hPa] at this
      clear ea es1 es2 epx epy eP hpW HPL hPa
      go_wp2_with fail
      refine N1.out.mono ?_
      rintro e w5 ⟨rfl, h5⟩
      obtain rfl := h5.symm
      go_wp2_with fail
      refine N2.out.mono ?_
      rintro e w6 ⟨rfl, h6⟩
      obtain rfl := h6.symm
      go_wp2_with fail
      refine DC.out.mono ?_
      rintro e w4 ⟨Cf, m, rfl, hm, hrun, ho4, hg4⟩
      have hlf : Cf.length = N := by rw [run_len hrun]; exact HL.out
      have K4 := Lib.hid (K.out.grown hg4 (own_blk_ne O.out K.out (by decide)))
      have R4 := Lib.hid (R.out.grown hg4 (own_blk_ne O.out R.out (by decide)))
      have Q4 := Lib.hid (Q.out.grown hg4 (own_blk_ne O.out Q.out (by decide)))
      have V4 := Lib.hid (V.out.grown hg4 V.out.size (fun k e => by have := (O.out.lt k e).1; omega))
      have O4 := Lib.hid ho4
      have HRUN := Lib.hid hrun
      have HLF := Lib.hid hlf
      have IS := l05Is_any (W : Int) (H : Int) (some ⟨gr, 0, none⟩) N c2 g2 w4.heap.size Cf w4 (by unfold maxLen; omega) K4.out (Rd.own ho4)
      rw [okSheet_len h1 h2 h3 h4 (by rw [hlf]; exact HN.out.symm)] at IS
      have IS4 := Lib.hid IS
      clear ho4 hg4 hrun hlf IS DC K R Q O V c0 c1 N1 N2 
      cases hfin : Cf.all finW
      · rw [hfin] at IS4
        have HFIN := Lib.hid hfin
        clear hfin
        go_wp2_with fail
        refine IS4.out.mono ?_
        rintro e w5 ⟨rfl, m5, hw5⟩
        have R5 : Hid (Blk w5 (w.heap.size + 1) 26 #[.int .i64 0, .int .i64 0, .slice none 0 0]) := by rw [hw5]; exact R4.out.drewN _
        have V5 : Hid (Below w.heap.size w w5) := by rw [hw5]; exact below_drewN' V4.out _
        clear hw5 R4 V4 K4 Q4 O4 IS4
        go_wp2_with (first
          | (refine wpList_store_blk rfl _ _ _ rfl (w.heap.size + 1) 0 rfl _ rfl [.int .i64 0, .int .i64 0, .slice none 0 0] rfl 26 _ #[.int .i64 0, .int .i64 0, .slice none 0 0] R5.out (by kernel_rfl) (by simp) (by simp [Value.oneCell']) rfl ?_; intro w9 k9 g9)
          | fail)
        refine bodyPost_ret (results_row3 rfl _ w9 (w.heap.size + 1) 26 _ _ rfl k9 Try.underlying26 rfl (by kernel_rfl) _ _ rfl rfl) rfl ?_
        refine .inr ⟨?_, srRes_no (V5.out.grown g9 V5.out.size (fun j e => by injection e with e; omega))⟩
        have hb := HBAD.out Cf m HRUN.out HFIN.out
        rw [show k - 1 + 1 = k by omega] at hb
        exact HM.out none hb
      · rw [hfin] at IS4
        have HFIN := Lib.hid hfin
        clear hfin
        go_wp2_with fail
        refine IS4.out.mono ?_
        rintro e w5 ⟨rfl, m5, hw5⟩
        have K5 : Hid (Blk w5 g2 26 #[.int .i64 (W : Int), .int .i64 (H : Int), .slice (some ⟨gr, 0, none⟩) N c2]) := by rw [hw5]; exact K4.out.drewN _
        have R5 : Hid (Blk w5 (w.heap.size + 1) 26 #[.int .i64 0, .int .i64 0, .slice none 0 0]) := by rw [hw5]; exact R4.out.drewN _
        have Q5 : Hid (Blk w5 w.heap.size 26 #[.int .i64 (W : Int), .int .i64 (H : Int), .slice A N c]) := by rw [hw5]; exact Q4.out.drewN _
        have V5 : Hid (Below w.heap.size w w5) := by rw [hw5]; exact below_drewN' V4.out _
        have O5 : Hid (w5.ownsRow bs 30 1 (.slice (some ⟨gr, 0, none⟩) N c2) N (Cf.map fv)) := by rw [hw5]; exact O4.out
        clear hw5 R4 V4 K4 Q4 O4 IS4
        have HM2 : Hid (∀ r, Many (nxS W H) W H tk lv st (k - 1) Cf s2 r → Many (nxS W H) W H tk lv st k0 xs s0 r) := fun r hr => by
          have hb := HGOOD.out Cf m r HRUN.out HFIN.out hr
          rw [show k - 1 + 1 = k by omega] at hb
          exact HM.out r hb
        go_wp2
        go_roundw
        case rel => exact ⟨k - 1, s2, Cf, by go_num, rfl, by omega, hs3, HLF.out, HFIN.out, HM2.out, K5.out, R5.out, Q5.out, O5.out, V5.out⟩
        case measure => simp [intOf]; omega
    · have hk0 : k = 0 := by omega
      subst hk0
      go_wp2_with (first
        | (refine wpList_load_blk rfl _ _ rfl g2 0 rfl 26 _ K.out [.int .i64 (W : Int), .int .i64 (H : Int), .slice (some ⟨gr, 0, none⟩) N c2] rfl _ Try.underlying26 rfl (by kernel_rfl) ?_)
        | (refine wpList_store_blk rfl _ _ _ rfl (w.heap.size + 1) 0 rfl _ rfl [.int .i64 (W : Int), .int .i64 (H : Int), .slice (some ⟨gr, 0, none⟩) N c2] rfl 26 _ #[.int .i64 (W : Int), .int .i64 (H : Int), .slice (some ⟨gr, 0, none⟩) N c2] R.out (by kernel_rfl) (by simp) (by simp [Value.oneCell']) rfl ?_; intro w9 k9 g9)
        | fail)
      refine bodyPost_ret (results_row3 rfl _ w9 (w.heap.size + 1) 26 _ _ rfl k9 Try.underlying26 rfl (by kernel_rfl) _ _ rfl rfl) rfl ?_
      refine .inl ⟨C, s, HM.out _ Many.done, some ⟨gr, 0, none⟩, c2, ?_, ?_, V.out.grown g9 V.out.size (fun j e => by injection e with e; omega)⟩
      · rw [HL.out]
        rfl
      · rw [HL.out]
        exact own_base (own_grown' O.out g9 (own_blk_ne O.out R.out (by decide))) hbase
end Go.Proofs.Ytoibgpmpngccjaa

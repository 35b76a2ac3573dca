/- Walk: loading the shape with which a text begins, by the program. Condition: the text is shorter than 2^63. -/
import Derived.Test.YtbkacmklgkgamaaLm
import Derived.Deep.QuietTactic
import Derived.BigQuiet
import Derived.Deep.RegionHeld3
namespace Go.Proofs.Ytbkacmklgkgamaa
open Go.RowKit

section
variable {P : Program} {ops : Array Oper} {C : World → Prop}
theorem q_read {o : Oper} {a : Act} {K : Act → Prop} (v : Value) (h : ∀ w, C w → (execOp a.eval o).run P w = .ok (.value v) w) (hk : K (a.put o.dst v)) : o.quiet P a C K :=
  ⟨v, fun w hw => by unfold Oper.quietAt; rw [h w hw]; exact ⟨rfl, rfl⟩, hk⟩
theorem q_call {o : Oper} {a : Act} {K : Act → Prop} (v : Value) (f : FuncId) (args : Array Value) (h : ∀ w, C w → (execOp a.eval o).run P w = .ok (.enter f args) w) (hc : ∀ w, C w → Calls P f args w fun e w'' => e = .returned v ∧ C w'') (hk : K (a.put o.dst v)) : o.quiet P a C K :=
  ⟨v, fun w hw => by unfold Oper.quietAt; rw [h w hw]; exact ⟨rfl, hc w hw⟩, hk⟩
theorem wp_region_class {id : Nat} {Q : Exit → Act → World → Prop} {a : Act} {w : World} {l : List Oper} (C : World → Prop) (hm : P.follows .mixedOrders = true) (hB : Region.lexB .any l.toArray = true) (hC : C w.drew)
    (h : wpQuiet P l.toArray C (fun a' => ∀ w', C w' → Q .normal a' w') l a) : (Code.region id l.toArray true).wp P Q a w :=
  wp_region_quiet (C := C) hm hB hC (by simpa using h)
end
/-- What the program's loading gives. -/
def LoadPOut (s : ByteArray) (w : World) (e : Ending) (w' : World) : Prop := ∃ r : Option (Rdd × Nat), LodP (nums s) r ∧ Below w.heap.size w w' ∧
  ((r = none ∧ e = .returned (.tuple #[zeroSh, .int .i64 0, .bool false])) ∨ ∃ (x : Rdd) (n : Nat) (A : Option Addr) (c : Nat), r = some (x, n) ∧ e = .returned (.tuple #[shV x.nm x.W x.H A x.cs.length c, .int .i64 (n : Int), .bool true]) ∧ w'.ownsRow w.heap.size 4 1 (.slice A x.cs.length c) x.cs.length (x.cs.map bv))
theorem wlen {x : Rdd} {r : List Nat} {s : ByteArray} (h : x.whole ++ r = nums s) : 11 + x.nm.size + (pack x.cs).length ≤ s.size := by
  have h2 := congrArg List.length h
  rw [List.length_append, nums_len] at h2
  unfold Rdd.whole at h2
  rw [wholeL_len] at h2
  omega
set_option maxRecDepth 100000 in
set_option maxHeartbeats 4000000 in
theorem load_any (s : ByteArray) (w : World) (hs : s.size ≤ maxLen) : Calls Try.prog 30 #[.string s] w (LoadPOut s w) := by
  have hs' := hs
  unfold maxLen at hs
  obtain ⟨v, ev⟩ : ∃ v, v = w.alloc (.cells #[.string ⟨#[]⟩, .int .i64 0, .int .i64 0, .slice none 0 0] 33) := ⟨_, rfl⟩
  have hk : Blk v w.heap.size 33 #[.string ⟨#[]⟩, .int .i64 0, .int .i64 0, .slice none 0 0] := by rw [ev]; exact Blk.new _ _ _
  have hb : Below w.heap.size w v := by rw [ev]; exact (Below.refl _ _).alloc (Nat.le_refl _) _
  have hvz : v.heap.size = w.heap.size + 1 := by rw [ev]; simp
  have EV := Lib.hid ev
  have HB := Lib.hid hb
  have HK := Lib.hid hk
  have HVZ := Lib.hid hvz
  have KV := HK.out
  rw [EV.out] at KV
  have HKV := Lib.hid KV
  have BV := HB.out
  rw [EV.out] at BV
  have HBV := Lib.hid BV
  clear ev hb hk hvz KV BV
  by_cases h4 : s.size ≤ 4
  · have HN : Hid (LodP (nums s) none) := fun x hx r he => by have := wlen he; omega
    go_enter Try.func30, Try.ntmps30
    go_wp2_with (first
      | (refine wpList_store_blk rfl _ _ _ rfl w.heap.size 0 rfl _ rfl [.string ⟨#[]⟩, .int .i64 0, .int .i64 0, .slice none 0 0] rfl 33 _ #[.string ⟨#[]⟩, .int .i64 0, .int .i64 0, .slice none 0 0] HKV.out (by kernel_rfl) (by simp) (by simp [Value.oneCell']) rfl ?_; intro w9 k9 g9)
      | fail)
    refine bodyPost_ret (results_row3 rfl _ w9 w.heap.size 33 _ _ rfl k9 Try.underlying33 rfl (by kernel_rfl) _ _ rfl rfl) rfl ?_
    exact ⟨none, HN.out, (HBV.out).grown g9 (HBV.out).size (fun j e => by injection e with e; omega), .inl ⟨rfl, rfl⟩⟩
  · have hk4 : 4 < s.size := by omega
    have b4 : s[4].toNat ≤ 255 := by have := s[4].toNat_lt; omega
    have g4 := getD_nums hk4
    obtain ⟨a, ea⟩ : ∃ a, s[4].toNat = a := ⟨_, rfl⟩
    rw [ea] at b4 g4
    by_cases h9 : s.size < 9 + a
    · have HN : Hid (LodP (nums s) none) := fun x hx r he => by have := wlen he; obtain ⟨m1, _⟩ := load_match he g4; omega
      clear g4
      go_enter Try.func30, Try.ntmps30
      go_wp2_with (first
        | (refine wpList_store_blk rfl _ _ _ rfl w.heap.size 0 rfl _ rfl [.string ⟨#[]⟩, .int .i64 0, .int .i64 0, .slice none 0 0] rfl 33 _ #[.string ⟨#[]⟩, .int .i64 0, .int .i64 0, .slice none 0 0] HKV.out (by kernel_rfl) (by simp) (by simp [Value.oneCell']) rfl ?_; intro w9 k9 g9)
        | fail)
      refine bodyPost_ret (results_row3 rfl _ w9 w.heap.size 33 _ _ rfl k9 Try.underlying33 rfl (by kernel_rfl) _ _ rfl rfl) rfl ?_
      exact ⟨none, HN.out, (HBV.out).grown g9 (HBV.out).size (fun j e => by injection e with e; omega), .inl ⟨rfl, rfl⟩⟩
    · have hsz9 : 9 + a ≤ s.size := by omega
      have k0 : 5 + a < s.size := by omega
      have k1 : 5 + a + 1 < s.size := by omega
      have k2 : 5 + a + 2 < s.size := by omega
      have k3 : 5 + a + 3 < s.size := by omega
      have b0 : s[5 + a].toNat ≤ 255 := by have := s[5 + a].toNat_lt; omega
      have b1 : s[5 + a + 1].toNat ≤ 255 := by have := s[5 + a + 1].toNat_lt; omega
      have b2 : s[5 + a + 2].toNat ≤ 255 := by have := s[5 + a + 2].toNat_lt; omega
      have b3 : s[5 + a + 3].toNat ≤ 255 := by have := s[5 + a + 3].toNat_lt; omega
      have q0 := getD_nums k0
      have q1 := getD_nums k1
      have q2 := getD_nums k2
      have q3 := getD_nums k3
      obtain ⟨W, eW⟩ : ∃ W, s[5 + a].toNat = W := ⟨_, rfl⟩
      obtain ⟨H, eH⟩ : ∃ H, s[5 + a + 1].toNat = H := ⟨_, rfl⟩
      obtain ⟨y, ey⟩ : ∃ y, s[5 + a + 2].toNat = y := ⟨_, rfl⟩
      obtain ⟨z, ez⟩ : ∃ z, s[5 + a + 3].toNat = z := ⟨_, rfl⟩
      rw [eW] at b0 q0
      rw [eH] at b1 q1
      rw [ey] at b2 q2
      rw [ez] at b3 q3
      obtain ⟨nm, hnm⟩ : ∃ nm, s.extract 5 (5 + a) = nm := ⟨_, rfl⟩
      have hnml : nm.size ≤ maxLen := by rw [← hnm]; simp only [ByteArray.size_extract]; unfold maxLen; omega
      have e5 : (5 : Int) + (a : Int) - (a : Int) = 5 := by omega
      have MT : Hid (∀ (x : Rdd) (r : List Nat), x.whole ++ r = nums s → x.nm.size = a ∧ nm = x.nm ∧ W = x.W ∧ H = x.H ∧ (pack x.cs).length = y + 256 * z ∧ nums (s.extract (9 + a) (9 + a + (y + 256 * z))) = pack x.cs) := fun x r he => by
        obtain ⟨m1, m2, m3, m4, m5, m6, m7, m8⟩ := load_match he g4
        have hp : (pack x.cs).length = y + 256 * z := by rw [← q2, ← q3, m5, m6]; omega
        rw [hp] at m7
        exact ⟨m1, by rw [← m2, hnm], by rw [← q0, m3], by rw [← q1, m4], hp, m7⟩
      have e6 : (4 : Int) + (1 + (a : Int)) = 5 + (a : Int) := by omega
      have i0 : (0 : Int) ≤ 5 + (a : Int) ∧ 5 + (a : Int) < (s.size : Int) := by omega
      have i1 : (0 : Int) ≤ 5 + (a : Int) + 1 ∧ 5 + (a : Int) + 1 < (s.size : Int) := by omega
      have i2 : (0 : Int) ≤ 5 + (a : Int) + 2 ∧ 5 + (a : Int) + 2 < (s.size : Int) := by omega
      have i3 : (0 : Int) ≤ 5 + (a : Int) + 3 ∧ 5 + (a : Int) + 3 < (s.size : Int) := by omega
      clear q0 q1 q2 q3 g4
      have HNM := Lib.hid hnm
      have K3 := Lib.hid ((HKV.out.alloc (.cells #[.string nm, .int .i64 (W : Int), .int .i64 (H : Int), .slice none 0 0] 33)).drew)
      have B3 := Lib.hid ((HBV.out.alloc (by simp) (.cells #[.string nm, .int .i64 (W : Int), .int .i64 (H : Int), .slice none 0 0] 33)).drew)
      have X3 := Lib.hid (show Blk ((w.alloc (.cells #[.string ⟨#[]⟩, .int .i64 0, .int .i64 0, .slice none 0 0] 33)).alloc (.cells #[.string nm, .int .i64 (W : Int), .int .i64 (H : Int), .slice none 0 0] 33)).drew (w.heap.size + 1) 33 #[.string nm, .int .i64 (W : Int), .int .i64 (H : Int), .slice none 0 0] from Blk.new2 _ _ _ _)
      go_enter Try.func30, Try.ntmps30
      go_wp2
      go_region
      generalize ((w.alloc (.cells #[.string ⟨#[]⟩, .int .i64 0, .int .i64 0, .slice none 0 0] 33)).alloc (.cells #[.string nm, .int .i64 (W : Int), .int .i64 (H : Int), .slice none 0 0] 33)).drew = w3 at *
      go_wp2
      go_quiet (fail)
      have K4 := Lib.hid (show Blk (w3.drewN nq) w.heap.size 33 #[.string ⟨#[]⟩, .int .i64 0, .int .i64 0, .slice none 0 0] from K3.out)
      have X4 := Lib.hid (show Blk (w3.drewN nq) (w.heap.size + 1) 33 #[.string nm, .int .i64 (W : Int), .int .i64 (H : Int), .slice none 0 0] from X3.out)
      have B4 := Lib.hid (below_drewN'' B3.out nq)
      generalize w3.drewN nq = w4 at *
      by_cases h11 : s.size < 11 + a + (y + 256 * z)
      · have HN : Hid (LodP (nums s) none) := fun x hx r he => by have := wlen he; obtain ⟨m1, _, _, _, m5, _⟩ := MT.out x r he; omega
        go_wp2_with (first
          | (refine wpList_store_blk rfl _ _ _ rfl w.heap.size 0 rfl _ rfl [.string ⟨#[]⟩, .int .i64 0, .int .i64 0, .slice none 0 0] rfl 33 _ #[.string ⟨#[]⟩, .int .i64 0, .int .i64 0, .slice none 0 0] K4.out (by kernel_rfl) (by simp) (by simp [Value.oneCell']) rfl ?_; intro w9 k9 g9)
          | fail)
        refine bodyPost_ret (results_row3 rfl _ w9 w.heap.size 33 _ _ rfl k9 Try.underlying33 rfl (by kernel_rfl) _ _ rfl rfl) rfl ?_
        exact ⟨none, HN.out, (B4.out).grown g9 (B4.out).size (fun j e => by injection e with e; omega), .inl ⟨rfl, rfl⟩⟩
      · have hN : 11 + a + (y + 256 * z) ≤ s.size := by omega
        obtain ⟨sub, hsub⟩ : ∃ sub, s.extract (5 + a + 4) (5 + a + 4 + (y + 256 * z)) = sub := ⟨_, rfl⟩
        have HSUB : Hid (s.extract (9 + a) (9 + a + (y + 256 * z)) = sub) := by unfold Hid; rw [show 9 + a = 5 + a + 4 from by omega]; exact hsub
        have hsubl : sub.size ≤ maxLen := by rw [← hsub]; simp only [ByteArray.size_extract]; unfold maxLen; omega
        have UC := Lib.hid (fun w => UnpackCells_any sub w hsubl)
        go_wp2_with fail
        refine (UC.out w4).mono ?_
        rintro e w5 ⟨r0, hu, hb5, hcase⟩
        have HU := Lib.hid hu
        have B5 := Lib.hid (B4.out.trans (hb5.mono B4.out.size))
        have K5 := Lib.hid (K4.out.below hb5 K4.out.lt)
        have X5 := Lib.hid (X4.out.below hb5 X4.out.lt)
        have Z5 : Hid (w.heap.size + 1 < w4.heap.size) := X4.out.lt
        clear hu hb5
        rcases hcase with ⟨hr, rfl⟩ | ⟨cs, A, c, hr, rfl, ho⟩
        · have HR := Lib.hid hr
          have HN : Hid (LodP (nums s) none) := fun x hx r he => by
            have hu := HU.out
            rw [HR.out] at hu
            obtain ⟨_, _, _, _, _, m6⟩ := MT.out x r he
            rw [HSUB.out] at m6
            exact hu x.cs (okC_parts hx).2.2.2 m6.symm
          clear hr
          go_wp2_with (first
            | (refine wpList_store_blk rfl _ _ _ rfl (w.heap.size + 1) 3 rfl _ rfl [.slice none 0 0] rfl 33 _ #[.string nm, .int .i64 (W : Int), .int .i64 (H : Int), .slice none 0 0] X5.out (by kernel_rfl) (by simp) (by simp [Value.oneCell']) rfl ?_; intro w6 k6 g6
               have B6 := Lib.hid (B5.out.grown g6 B5.out.size (fun j e => by injection e with e; omega))
               have K6 := Lib.hid (K5.out.grown g6 (fun e => by injection e with e; omega))
               clear k6 g6)
            | fail)
          refine wp_region_class (fun w' => Below w6.heap.size w6 w') (by kernel_rfl) (by kernel_rfl) (Below.refl _ _).drew ?_
          go_big_quiet_want
          refine q_read (.bool false) (fun w' hw' => ?_) ?_
          · go_simp
          simp only [Act.put, List.setIfInBounds_toArray, List.set_cons_zero, List.set_cons_succ]
          go_big_quiet_on
          go_big_quiet_want
          refine q_read (.bool true) (fun w' hw' => ?_) ?_
          · go_simp
          simp only [Act.put, List.setIfInBounds_toArray, List.set_cons_zero, List.set_cons_succ]
          go_big_quiet_on
          go_big_quiet_want
          refine q_read (.bool true) (fun w' hw' => ?_) ?_
          · go_simp
          simp only [Act.put, List.setIfInBounds_toArray, List.set_cons_zero, List.set_cons_succ]
          go_big_quiet_on
          go_big_quiet_skip
          go_big_quiet_skip
          go_big_quiet_skip
          go_big_quiet_want
          refine q_read (.bool true) (fun w' hw' => ?_) ?_
          · go_simp
          simp only [Act.put, List.setIfInBounds_toArray, List.set_cons_zero, List.set_cons_succ]
          go_big_quiet_on
          go_big_quiet_want
          refine q_read (.bool true) (fun w' hw' => ?_) ?_
          · go_simp
          simp only [Act.put, List.setIfInBounds_toArray, List.set_cons_zero, List.set_cons_succ]
          go_big_quiet_on
          go_big_quiet_skip
          go_big_quiet_skip
          go_big_quiet_skip
          go_big_quiet_skip
          go_big_quiet_skip
          go_big_quiet_skip
          go_big_quiet_want
          refine q_read (.bool true) (fun w' hw' => ?_) ?_
          · go_simp
          simp only [Act.put, List.setIfInBounds_toArray, List.set_cons_zero, List.set_cons_succ]
          go_big_quiet_on
          refine wpQuiet_nil ?_
          intro w7 hw7
          have B7 := Lib.hid (B6.out.trans (hw7.mono B6.out.size))
          have K7 := Lib.hid (K6.out.below hw7 K6.out.lt)
          clear hw7
          go_wp2_with (first
            | (refine wpList_store_blk rfl _ _ _ rfl w.heap.size 0 rfl _ rfl [.string ⟨#[]⟩, .int .i64 0, .int .i64 0, .slice none 0 0] rfl 33 _ #[.string ⟨#[]⟩, .int .i64 0, .int .i64 0, .slice none 0 0] K7.out (by kernel_rfl) (by simp) (by simp [Value.oneCell']) rfl ?_; intro w9 k9 g9)
            | fail)
          refine bodyPost_ret (results_row3 rfl _ w9 w.heap.size 33 _ _ rfl k9 Try.underlying33 rfl (by kernel_rfl) _ _ rfl rfl) rfl ?_
          exact ⟨none, HN.out, (B7.out).grown g9 (B7.out).size (fun j e => by injection e with e; omega), .inl ⟨rfl, rfl⟩⟩
        · have HR := Lib.hid hr
          have HO := Lib.hid ho
          have hu := HU.out
          rw [hr] at hu
          have HU2 := Lib.hid hu
          have hc256 : cs.length ≤ 256 := hu.1
          obtain ⟨NN, hNN⟩ : ∃ NN, 11 + a + (y + 256 * z) = NN := ⟨_, rfl⟩
          have hXN : Hid (∀ (x : Rdd) (r : List Nat), x.ok → x.whole ++ r = nums s → x = ⟨nm, W, H, cs⟩ ∧ x.whole.length = NN) := fun x r hx he => by
            obtain ⟨m1, m2, m3, m4, m5, m6⟩ := MT.out x r he
            rw [HSUB.out] at m6
            have hl : x.whole.length = NN := by unfold Rdd.whole; rw [wholeL_len, ← hNN]; omega
            obtain ⟨xn, xW, xH, xc⟩ := x
            simp only at m1 m2 m3 m4 m6
            have := HU2.out.2.2 xc (okC_parts hx).2.2.2 m6.symm
            subst m2 m3 m4 this
            exact ⟨rfl, hl⟩
          clear hr ho hu
          have VC := Lib.hid (fun w => ValidShape_any nm (W : Int) (H : Int) A cs.length c w hnml)
          go_wp2_with (first
            | (refine wpList_store_blk rfl _ _ _ rfl (w.heap.size + 1) 3 rfl _ rfl [.slice A cs.length c] rfl 33 _ #[.string nm, .int .i64 (W : Int), .int .i64 (H : Int), .slice A cs.length c] X5.out (by kernel_rfl) (by simp) (by simp [Value.oneCell']) rfl ?_; intro w6 k6 g6
               have B6 := Lib.hid (B5.out.grown g6 B5.out.size (fun j e => by injection e with e; omega))
               have K6 := Lib.hid (K5.out.grown g6 (fun e => by injection e with e; omega))
               have X6 := Lib.hid k6
               have O6 := Lib.hid (own_grown' HO.out g6 (own_blk_ne HO.out X5.out (by decide)))
               have Z6 : Hid (w5.heap.size ≤ w6.heap.size) := g6.size
               clear k6 g6)
            | fail)
          have XC : Hid (∀ w', Below w6.heap.size w6 w' → w'.cell? ⟨w.heap.size + 1, 0, none⟩ = some (.string nm) ∧ w'.cell? ⟨w.heap.size + 1, 1, none⟩ = some (.int .i64 (W : Int)) ∧ w'.cell? ⟨w.heap.size + 1, 2, none⟩ = some (.int .i64 (H : Int)) ∧ w'.cell? ⟨w.heap.size + 1, 3, none⟩ = some (.slice A cs.length c)) := fun w' h =>
            ⟨(h.cell X6.out.lt).trans (X6.out.cell 0), (h.cell X6.out.lt).trans (X6.out.cell 1), (h.cell X6.out.lt).trans (X6.out.cell 2), (h.cell X6.out.lt).trans (X6.out.cell 3)⟩
          cases hok : okSh nm (W : Int) (H : Int) cs.length
          · rw [hok] at VC
            have HN : Hid (LodP (nums s) none) := fun x hx r he => by
              obtain ⟨e, _⟩ := hXN.out x r hx he
              subst e
              unfold Rdd.ok OkC at hx
              rw [hok] at hx
              cases hx
            clear hok
            refine wp_region_class (fun w' => Below w6.heap.size w6 w') (by kernel_rfl) (by kernel_rfl) (Below.refl _ _).drew ?_
            go_big_quiet_want
            refine q_read (.bool true) (fun w' hw' => ?_) ?_
            · go_simp
            simp only [Act.put, List.setIfInBounds_toArray, List.set_cons_zero, List.set_cons_succ]
            go_big_quiet_on
            go_big_quiet_want
            refine q_read (.bool false) (fun w' hw' => ?_) ?_
            · go_simp
            simp only [Act.put, List.setIfInBounds_toArray, List.set_cons_zero, List.set_cons_succ]
            go_big_quiet_on
            go_big_quiet_want
            refine q_read (.bool false) (fun w' hw' => ?_) ?_
            · go_simp
            simp only [Act.put, List.setIfInBounds_toArray, List.set_cons_zero, List.set_cons_succ]
            go_big_quiet_on
            go_big_quiet_want
            refine q_read (.agg #[.string nm, .int .i64 (W : Int), .int .i64 (H : Int), .slice A cs.length c]) (fun w' hw' => ?_) ?_
            · obtain ⟨y0, y1, y2, y3⟩ := XC.out w' hw'
              go_simp
            simp only [Act.put, List.setIfInBounds_toArray, List.set_cons_zero, List.set_cons_succ]
            go_big_quiet_on
            go_big_quiet_want
            refine q_call (.bool false) 12 #[.agg #[.string nm, .int .i64 (W : Int), .int .i64 (H : Int), .slice A cs.length c]] (fun w' hw' => ?_) (fun w' hw' => ?_) ?_
            · go_simp
            · exact (VC.out w').mono fun e w'' h => ⟨h.1, hw'.trans (h.2.mono hw'.size)⟩
            simp only [Act.put, List.setIfInBounds_toArray, List.set_cons_zero, List.set_cons_succ]
            go_big_quiet_on
            go_big_quiet_want
            refine q_read (.bool true) (fun w' hw' => ?_) ?_
            · go_simp
            simp only [Act.put, List.setIfInBounds_toArray, List.set_cons_zero, List.set_cons_succ]
            go_big_quiet_on
            go_big_quiet_want
            refine q_read (.bool true) (fun w' hw' => ?_) ?_
            · go_simp
            simp only [Act.put, List.setIfInBounds_toArray, List.set_cons_zero, List.set_cons_succ]
            go_big_quiet_on
            go_big_quiet_want
            refine q_read (.bool true) (fun w' hw' => ?_) ?_
            · go_simp
            simp only [Act.put, List.setIfInBounds_toArray, List.set_cons_zero, List.set_cons_succ]
            go_big_quiet_on
            go_big_quiet_skip
            go_big_quiet_skip
            go_big_quiet_skip
            go_big_quiet_skip
            go_big_quiet_skip
            go_big_quiet_skip
            go_big_quiet_want
            refine q_read (.bool true) (fun w' hw' => ?_) ?_
            · go_simp
            simp only [Act.put, List.setIfInBounds_toArray, List.set_cons_zero, List.set_cons_succ]
            go_big_quiet_on
            refine wpQuiet_nil ?_
            intro w7 hw7
            have B7 := Lib.hid (B6.out.trans (hw7.mono B6.out.size))
            have K7 := Lib.hid (K6.out.below hw7 K6.out.lt)
            clear hw7
            go_wp2_with (first
              | (refine wpList_store_blk rfl _ _ _ rfl w.heap.size 0 rfl _ rfl [.string ⟨#[]⟩, .int .i64 0, .int .i64 0, .slice none 0 0] rfl 33 _ #[.string ⟨#[]⟩, .int .i64 0, .int .i64 0, .slice none 0 0] K7.out (by kernel_rfl) (by simp) (by simp [Value.oneCell']) rfl ?_; intro w9 k9 g9)
              | fail)
            refine bodyPost_ret (results_row3 rfl _ w9 w.heap.size 33 _ _ rfl k9 Try.underlying33 rfl (by kernel_rfl) _ _ rfl rfl) rfl ?_
            exact ⟨none, HN.out, (B7.out).grown g9 (B7.out).size (fun j e => by injection e with e; omega), .inl ⟨rfl, rfl⟩⟩
          · rw [hok] at VC
            have HOK : Hid (OkC nm W H cs) := hok
            obtain ⟨p1, p2, p3, p4⟩ := okC_parts hok
            clear hok
            have STC := Lib.hid (fun w' (h : Below w6.heap.size w6 w') => store_any nm W H cs.length A c cs w' p1 p2 p3 p4 rfl ((Rd.own (own_below O6.out h))))
            obtain ⟨q, eq⟩ : ∃ q, txt (wholeL nm W H cs) = q := ⟨_, rfl⟩
            rw [eq] at STC
            have HQL : Hid (nums q = wholeL nm W H cs) := by unfold Hid; rw [← eq, nums_txt (wholeL_lt p1 p2 p3 p4)]
            obtain ⟨pre, hpre⟩ : ∃ pre, s.extract 0 (5 + a + 4 + (y + 256 * z + 2)) = pre := ⟨_, rfl⟩
            have hNN2 : 5 + a + 4 + (y + 256 * z + 2) = NN := by omega
            have HPR : Hid (nums pre = (nums s).take NN) := by unfold Hid; rw [← hpre, nums_extract, hNN2]; simp
            have HNL : Hid (NN ≤ s.size) := by unfold Hid; omega
            have HNI : Hid ((5 : Int) + (a : Int) + 4 + ((y : Int) + 256 * (z : Int) + 2) = (NN : Int)) := by unfold Hid; omega
            have ib : (0 : Int) ≤ 5 + (a : Int) + 4 + ((y : Int) + 256 * (z : Int) + 2) ∧ (5 : Int) + (a : Int) + 4 + ((y : Int) + 256 * (z : Int) + 2) ≤ (s.size : Int) := by omega
            clear eq hNN2 hNN
            by_cases hq : q = pre
            · subst hq
              have hqq := str_eq q
              refine wp_region_class (fun w' => Below w6.heap.size w6 w') (by kernel_rfl) (by kernel_rfl) (Below.refl _ _).drew ?_
              go_big_quiet_want
              refine q_read (.bool true) (fun w' hw' => ?_) ?_
              · go_simp
              simp only [Act.put, List.setIfInBounds_toArray, List.set_cons_zero, List.set_cons_succ]
              go_big_quiet_on
              go_big_quiet_want
              refine q_read (.bool false) (fun w' hw' => ?_) ?_
              · go_simp
              simp only [Act.put, List.setIfInBounds_toArray, List.set_cons_zero, List.set_cons_succ]
              go_big_quiet_on
              go_big_quiet_want
              refine q_read (.bool false) (fun w' hw' => ?_) ?_
              · go_simp
              simp only [Act.put, List.setIfInBounds_toArray, List.set_cons_zero, List.set_cons_succ]
              go_big_quiet_on
              go_big_quiet_want
              refine q_read (.agg #[.string nm, .int .i64 (W : Int), .int .i64 (H : Int), .slice A cs.length c]) (fun w' hw' => ?_) ?_
              · obtain ⟨y0, y1, y2, y3⟩ := XC.out w' hw'
                go_simp
              simp only [Act.put, List.setIfInBounds_toArray, List.set_cons_zero, List.set_cons_succ]
              go_big_quiet_on
              go_big_quiet_want
              refine q_call (.bool true) 12 #[.agg #[.string nm, .int .i64 (W : Int), .int .i64 (H : Int), .slice A cs.length c]] (fun w' hw' => ?_) (fun w' hw' => ?_) ?_
              · go_simp
              · exact (VC.out w').mono fun e w'' h => ⟨h.1, hw'.trans (h.2.mono hw'.size)⟩
              simp only [Act.put, List.setIfInBounds_toArray, List.set_cons_zero, List.set_cons_succ]
              go_big_quiet_on
              go_big_quiet_want
              refine q_read (.bool false) (fun w' hw' => ?_) ?_
              · go_simp
              simp only [Act.put, List.setIfInBounds_toArray, List.set_cons_zero, List.set_cons_succ]
              go_big_quiet_on
              go_big_quiet_want
              refine q_read (.bool false) (fun w' hw' => ?_) ?_
              · go_simp
              simp only [Act.put, List.setIfInBounds_toArray, List.set_cons_zero, List.set_cons_succ]
              go_big_quiet_on
              go_big_quiet_want
              refine q_read (.bool false) (fun w' hw' => ?_) ?_
              · go_simp
              simp only [Act.put, List.setIfInBounds_toArray, List.set_cons_zero, List.set_cons_succ]
              go_big_quiet_on
              go_big_quiet_want
              refine q_read (.agg #[.string nm, .int .i64 (W : Int), .int .i64 (H : Int), .slice A cs.length c]) (fun w' hw' => ?_) ?_
              · obtain ⟨y0, y1, y2, y3⟩ := XC.out w' hw'
                go_simp
              simp only [Act.put, List.setIfInBounds_toArray, List.set_cons_zero, List.set_cons_succ]
              go_big_quiet_on
              go_big_quiet_want
              refine q_call (.string q) 29 #[.agg #[.string nm, .int .i64 (W : Int), .int .i64 (H : Int), .slice A cs.length c]] (fun w' hw' => ?_) (fun w' hw' => ?_) ?_
              · go_simp
              · exact (STC.out w' hw').mono fun e w'' h => ⟨h.1, hw'.trans (h.2.mono hw'.size)⟩
              simp only [Act.put, List.setIfInBounds_toArray, List.set_cons_zero, List.set_cons_succ]
              go_big_quiet_on
              go_big_quiet_want
              refine q_read (.string s) (fun w' hw' => ?_) ?_
              · go_simp
              simp only [Act.put, List.setIfInBounds_toArray, List.set_cons_zero, List.set_cons_succ]
              go_big_quiet_on
              go_big_quiet_want
              refine q_read (.int .i64 (5 + (a : Int) + 4 + ((y : Int) + 256 * (z : Int) + 2))) (fun w' hw' => ?_) ?_
              · go_simp
              simp only [Act.put, List.setIfInBounds_toArray, List.set_cons_zero, List.set_cons_succ]
              go_big_quiet_on
              go_big_quiet_want
              refine q_read (.string q) (fun w' hw' => ?_) ?_
              · go_simp
                rw [show ((5 : Int) + (a : Int) + 4 + ((y : Int) + 256 * (z : Int) + 2)).toNat = 5 + a + 4 + (y + 256 * z + 2) from by omega]
                exact hpre
              simp only [Act.put, List.setIfInBounds_toArray, List.set_cons_zero, List.set_cons_succ]
              go_big_quiet_on
              go_big_quiet_want
              refine q_read (.bool false) (fun w' hw' => ?_) ?_
              · go_simp
              simp only [Act.put, List.setIfInBounds_toArray, List.set_cons_zero, List.set_cons_succ]
              go_big_quiet_on
              go_big_quiet_want
              refine q_read (.bool false) (fun w' hw' => ?_) ?_
              · go_simp
              simp only [Act.put, List.setIfInBounds_toArray, List.set_cons_zero, List.set_cons_succ]
              go_big_quiet_on
              refine wpQuiet_nil ?_
              intro w7 hw7
              have B7 := Lib.hid (B6.out.trans (hw7.mono B6.out.size))
              have K7 := Lib.hid (K6.out.below hw7 K6.out.lt)
              have X7 := Lib.hid (X6.out.below hw7 X6.out.lt)
              have O7 := Lib.hid (own_below O6.out hw7)
              clear hw7
              go_wp2_with (first
                | (refine wpList_load_blk rfl _ _ rfl (w.heap.size + 1) 0 rfl 33 _ X7.out [.string nm, .int .i64 (W : Int), .int .i64 (H : Int), .slice A cs.length c] rfl _ Try.underlying33 rfl (by kernel_rfl) ?_)
                | (refine wpList_store_blk rfl _ _ _ rfl w.heap.size 0 rfl _ rfl [.string nm, .int .i64 (W : Int), .int .i64 (H : Int), .slice A cs.length c] rfl 33 _ #[.string nm, .int .i64 (W : Int), .int .i64 (H : Int), .slice A cs.length c] K7.out (by kernel_rfl) (by simp) (by simp [Value.oneCell']) rfl ?_; intro w9 k9 g9)
                | fail)
              refine bodyPost_ret (results_row3 rfl _ w9 w.heap.size 33 _ _ rfl k9 Try.underlying33 rfl (by kernel_rfl) _ _ rfl rfl) rfl ?_
              refine ⟨some (⟨nm, W, H, cs⟩, NN), ⟨HOK.out, by rw [nums_len]; exact HNL.out, by rw [← HPR.out, HQL.out]; rfl⟩, B7.out.grown g9 B7.out.size (fun j e => by injection e with e; omega), .inr ⟨⟨nm, W, H, cs⟩, NN, A, c, rfl, by rw [HNI.out]; rfl, ?_⟩⟩
              exact own_base (own_grown' O7.out g9 (own_blk_ne O7.out K7.out (by decide))) (by have := Z5.out; omega)
            · have hqq := str_ne hq
              have HN : Hid (LodP (nums s) none) := fun x hx r he => by
                obtain ⟨e, hl⟩ := hXN.out x r hx he
                subst e
                apply hq
                have e2 : nums q = nums pre := by
                  rw [HQL.out, HPR.out, ← he, List.take_left' hl]
                  rfl
                rw [← txt_nums q, ← txt_nums pre, e2]
              clear hq
              refine wp_region_class (fun w' => Below w6.heap.size w6 w') (by kernel_rfl) (by kernel_rfl) (Below.refl _ _).drew ?_
              go_big_quiet_want
              refine q_read (.bool true) (fun w' hw' => ?_) ?_
              · go_simp
              simp only [Act.put, List.setIfInBounds_toArray, List.set_cons_zero, List.set_cons_succ]
              go_big_quiet_on
              go_big_quiet_want
              refine q_read (.bool false) (fun w' hw' => ?_) ?_
              · go_simp
              simp only [Act.put, List.setIfInBounds_toArray, List.set_cons_zero, List.set_cons_succ]
              go_big_quiet_on
              go_big_quiet_want
              refine q_read (.bool false) (fun w' hw' => ?_) ?_
              · go_simp
              simp only [Act.put, List.setIfInBounds_toArray, List.set_cons_zero, List.set_cons_succ]
              go_big_quiet_on
              go_big_quiet_want
              refine q_read (.agg #[.string nm, .int .i64 (W : Int), .int .i64 (H : Int), .slice A cs.length c]) (fun w' hw' => ?_) ?_
              · obtain ⟨y0, y1, y2, y3⟩ := XC.out w' hw'
                go_simp
              simp only [Act.put, List.setIfInBounds_toArray, List.set_cons_zero, List.set_cons_succ]
              go_big_quiet_on
              go_big_quiet_want
              refine q_call (.bool true) 12 #[.agg #[.string nm, .int .i64 (W : Int), .int .i64 (H : Int), .slice A cs.length c]] (fun w' hw' => ?_) (fun w' hw' => ?_) ?_
              · go_simp
              · exact (VC.out w').mono fun e w'' h => ⟨h.1, hw'.trans (h.2.mono hw'.size)⟩
              simp only [Act.put, List.setIfInBounds_toArray, List.set_cons_zero, List.set_cons_succ]
              go_big_quiet_on
              go_big_quiet_want
              refine q_read (.bool false) (fun w' hw' => ?_) ?_
              · go_simp
              simp only [Act.put, List.setIfInBounds_toArray, List.set_cons_zero, List.set_cons_succ]
              go_big_quiet_on
              go_big_quiet_want
              refine q_read (.bool false) (fun w' hw' => ?_) ?_
              · go_simp
              simp only [Act.put, List.setIfInBounds_toArray, List.set_cons_zero, List.set_cons_succ]
              go_big_quiet_on
              go_big_quiet_want
              refine q_read (.bool false) (fun w' hw' => ?_) ?_
              · go_simp
              simp only [Act.put, List.setIfInBounds_toArray, List.set_cons_zero, List.set_cons_succ]
              go_big_quiet_on
              go_big_quiet_want
              refine q_read (.agg #[.string nm, .int .i64 (W : Int), .int .i64 (H : Int), .slice A cs.length c]) (fun w' hw' => ?_) ?_
              · obtain ⟨y0, y1, y2, y3⟩ := XC.out w' hw'
                go_simp
              simp only [Act.put, List.setIfInBounds_toArray, List.set_cons_zero, List.set_cons_succ]
              go_big_quiet_on
              go_big_quiet_want
              refine q_call (.string q) 29 #[.agg #[.string nm, .int .i64 (W : Int), .int .i64 (H : Int), .slice A cs.length c]] (fun w' hw' => ?_) (fun w' hw' => ?_) ?_
              · go_simp
              · exact (STC.out w' hw').mono fun e w'' h => ⟨h.1, hw'.trans (h.2.mono hw'.size)⟩
              simp only [Act.put, List.setIfInBounds_toArray, List.set_cons_zero, List.set_cons_succ]
              go_big_quiet_on
              go_big_quiet_want
              refine q_read (.string s) (fun w' hw' => ?_) ?_
              · go_simp
              simp only [Act.put, List.setIfInBounds_toArray, List.set_cons_zero, List.set_cons_succ]
              go_big_quiet_on
              go_big_quiet_want
              refine q_read (.int .i64 (5 + (a : Int) + 4 + ((y : Int) + 256 * (z : Int) + 2))) (fun w' hw' => ?_) ?_
              · go_simp
              simp only [Act.put, List.setIfInBounds_toArray, List.set_cons_zero, List.set_cons_succ]
              go_big_quiet_on
              go_big_quiet_want
              refine q_read (.string pre) (fun w' hw' => ?_) ?_
              · go_simp
                rw [show ((5 : Int) + (a : Int) + 4 + ((y : Int) + 256 * (z : Int) + 2)).toNat = 5 + a + 4 + (y + 256 * z + 2) from by omega]
                exact hpre
              simp only [Act.put, List.setIfInBounds_toArray, List.set_cons_zero, List.set_cons_succ]
              go_big_quiet_on
              go_big_quiet_want
              refine q_read (.bool true) (fun w' hw' => ?_) ?_
              · go_simp
              simp only [Act.put, List.setIfInBounds_toArray, List.set_cons_zero, List.set_cons_succ]
              go_big_quiet_on
              go_big_quiet_want
              refine q_read (.bool true) (fun w' hw' => ?_) ?_
              · go_simp
              simp only [Act.put, List.setIfInBounds_toArray, List.set_cons_zero, List.set_cons_succ]
              go_big_quiet_on
              refine wpQuiet_nil ?_
              intro w7 hw7
              have B7 := Lib.hid (B6.out.trans (hw7.mono B6.out.size))
              have K7 := Lib.hid (K6.out.below hw7 K6.out.lt)
              clear hw7
              go_wp2_with (first
                | (refine wpList_store_blk rfl _ _ _ rfl w.heap.size 0 rfl _ rfl [.string ⟨#[]⟩, .int .i64 0, .int .i64 0, .slice none 0 0] rfl 33 _ #[.string ⟨#[]⟩, .int .i64 0, .int .i64 0, .slice none 0 0] K7.out (by kernel_rfl) (by simp) (by simp [Value.oneCell']) rfl ?_; intro w9 k9 g9)
                | fail)
              refine bodyPost_ret (results_row3 rfl _ w9 w.heap.size 33 _ _ rfl k9 Try.underlying33 rfl (by kernel_rfl) _ _ rfl rfl) rfl ?_
              exact ⟨none, HN.out, (B7.out).grown g9 (B7.out).size (fun j e => by injection e with e; omega), .inl ⟨rfl, rfl⟩⟩
end Go.Proofs.Ytbkacmklgkgamaa

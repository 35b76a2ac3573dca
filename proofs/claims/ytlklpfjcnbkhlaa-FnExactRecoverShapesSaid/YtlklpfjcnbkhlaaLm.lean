/- Walk: loading a shape, by the reference. Condition: the text is shorter than 2^63. -/
import Derived.Test.YtlklpfjcnbkhlaaLl
import Derived.Test.YtlklpfjcnbkhlaaCp
namespace Go.Proofs.Ytlklpfjcnbkhlaa
open Go.RowKit

theorem getD_of_some {s : List Nat} {k v : Nat} (h : s[k]? = some v) : s.getD k 0 = v := by
  rw [List.getD_eq_getElem?_getD, h]; rfl
/-- Each shape whose bytes s begins with has these parts. -/
theorem load_match {s : ByteArray} {x : Rdd} {r : List Nat} (he : x.whole ++ r = nums s) {a : Nat} (ha : (nums s).getD 4 0 = a) :
    x.nm.size = a ∧ s.extract 5 (5 + a) = x.nm ∧ (nums s).getD (5 + a) 0 = x.W ∧ (nums s).getD (5 + a + 1) 0 = x.H ∧ (nums s).getD (5 + a + 2) 0 = (pack x.cs).length % 256 ∧ (nums s).getD (5 + a + 3) 0 = (pack x.cs).length / 256 ∧
      nums (s.extract (9 + a) (9 + a + (pack x.cs).length)) = pack x.cs ∧ 11 + a + (pack x.cs).length ≤ s.size := by
  have p := parsed (nm := x.nm) (W := x.W) (H := x.H) (cs := x.cs) (r := r) he.symm
  have e0 : x.nm.size = a := by rw [← ha]; exact (getD_of_some p.name).symm
  subst e0
  refine ⟨rfl, ?_, getD_of_some p.wide, getD_of_some p.high, getD_of_some p.lo, getD_of_some p.hi, ?_, by have := p.len; rw [nums_len] at this; exact this⟩
  · rw [← txt_nums (s.extract 5 (5 + x.nm.size)), nums_extract, show 5 + x.nm.size - 5 = x.nm.size from by omega, p.nums, txt_nums]
  · rw [nums_extract, show 9 + x.nm.size + (pack x.cs).length - (9 + x.nm.size) = (pack x.cs).length from by omega]
    exact p.cells
theorem longL_ge {s : List Nat} (h : longL s ≠ 0) : 5 ≤ s.length ∧ longL s = 5 + s.getD 4 0 + 6 + s.getD (5 + s.getD 4 0 + 2) 0 + 256 * s.getD (5 + s.getD 4 0 + 3) 0 ∧ longL s ≤ s.length := by
  unfold longL at h ⊢
  split
  · rename_i q; rw [if_pos q] at h; exact absurd rfl h
  · split
    · rename_i q1 q; rw [if_neg q1, if_pos q] at h; exact absurd rfl h
    · split
      · rename_i q1 q2 q; rw [if_neg q1, if_neg q2, if_pos q] at h; exact absurd rfl h
      · exact ⟨by omega, rfl, by omega⟩
def shV (nm : ByteArray) (W H : Nat) (A : Option Addr) (n c : Nat) : Value := .agg #[.string nm, .int .i64 (W : Int), .int .i64 (H : Int), .slice A n c]
def zeroSh : Value := .agg #[.string ⟨#[]⟩, .int .i64 0, .int .i64 0, .slice none 0 0]
/-- What both loadings give. -/
def LoadOut (s : ByteArray) (w : World) (e : Ending) (w' : World) : Prop := ∃ r : Option Rdd, Lod (nums s) r ∧ Below w.heap.size w w' ∧
  ((r = none ∧ e = .returned (.tuple #[zeroSh, .bool false])) ∨ ∃ (x : Rdd) (A : Option Addr) (c : Nat), r = some x ∧ e = .returned (.tuple #[shV x.nm x.W x.H A x.cs.length c, .bool true]) ∧ w'.ownsRow w.heap.size 4 1 (.slice A x.cs.length c) x.cs.length (x.cs.map bv))
set_option maxRecDepth 100000 in
set_option maxHeartbeats 4000000 in
theorem l07Load_any (s : ByteArray) (w : World) (hs : s.size ≤ maxLen) : Calls Try.prog 25 #[.string s] w (LoadOut s w) := by
  have hs' := hs
  unfold maxLen at hs
  obtain ⟨v, ev⟩ : ∃ v, v = w.alloc (.cells #[.string ⟨#[]⟩, .int .i64 0, .int .i64 0, .slice none 0 0] 34) := ⟨_, rfl⟩
  have hk : Blk v w.heap.size 34 #[.string ⟨#[]⟩, .int .i64 0, .int .i64 0, .slice none 0 0] := by rw [ev]; exact Blk.new _ _ _
  have hb : Below w.heap.size w v := by rw [ev]; exact (Below.refl _ _).alloc (Nat.le_refl _) _
  have hvz : v.heap.size = w.heap.size + 1 := by rw [ev]; simp
  have EV := Lib.hid ev
  have HB := Lib.hid hb
  have HK := Lib.hid hk
  have HVZ := Lib.hid hvz
  have LC := Lib.hid (fun w => l07Long_any s w hs')
  obtain ⟨n, en⟩ : ∃ n, longL (nums s) = n := ⟨_, rfl⟩
  rw [en] at LC
  have EN := Lib.hid en
  clear ev hb hk hvz en
  by_cases hbad : n = 0 ∨ n ≠ s.size
  · have HN : Hid (Lod (nums s) none) := fun x hx he => by
      have := longL_parsed (parsed (s := nums s) (nm := x.nm) (W := x.W) (H := x.H) (cs := x.cs) (r := []) (by rw [List.append_nil]; exact he.symm))
      have h2 := congrArg List.length he
      unfold Rdd.whole at h2
      rw [wholeL_len, nums_len] at h2
      rw [EN.out] at this
      omega
    have fin : ∀ m, Blk (v.drewN m) w.heap.size 34 #[.string ⟨#[]⟩, .int .i64 0, .int .i64 0, .slice none 0 0] := fun m => HK.out
    by_cases h0 : n = 0
    · subst h0
      go_enter Try.func25, Try.ntmps25
      go_wp2_with fail
      rw [← EV.out]
      refine (LC.out _).mono ?_
      rintro e w1 ⟨rfl, m, hw1⟩
      have K1 := Lib.hid (show Blk w1 w.heap.size 34 #[.string ⟨#[]⟩, .int .i64 0, .int .i64 0, .slice none 0 0] by rw [hw1]; exact fin m)
      have B1 := Lib.hid (show Below w.heap.size w w1 by rw [hw1]; exact below_drewN'' HB.out m)
      clear hw1
      go_wp2_with (first
        | (refine wpList_store_blk rfl _ _ _ rfl w.heap.size 0 rfl _ rfl [.string ⟨#[]⟩, .int .i64 0, .int .i64 0, .slice none 0 0] rfl 34 _ #[.string ⟨#[]⟩, .int .i64 0, .int .i64 0, .slice none 0 0] K1.out (by kernel_rfl) (by simp) (by simp [Value.oneCell']) rfl ?_; intro w9 k9 g9)
        | fail)
      refine bodyPost_ret (results_row2 rfl _ w9 w.heap.size 34 _ _ rfl k9 Try.underlying34 rfl (by kernel_rfl) _ rfl) rfl ?_
      exact ⟨none, HN.out, B1.out.grown g9 B1.out.size (fun j e => by injection e with e; omega), .inl ⟨rfl, rfl⟩⟩
    · have h1 : n ≠ s.size := by omega
      have hni : ((n : Int) == 0) = false := by simp; omega
      have hns : (!((n : Int) == (s.size : Int))) = true := by simp; omega
      go_enter Try.func25, Try.ntmps25
      go_wp2_with fail
      rw [← EV.out]
      refine (LC.out _).mono ?_
      rintro e w1 ⟨rfl, m, hw1⟩
      have K1 := Lib.hid (show Blk w1 w.heap.size 34 #[.string ⟨#[]⟩, .int .i64 0, .int .i64 0, .slice none 0 0] by rw [hw1]; exact fin m)
      have B1 := Lib.hid (show Below w.heap.size w w1 by rw [hw1]; exact below_drewN'' HB.out m)
      clear hw1
      go_wp2_with (first
        | (refine wpList_store_blk rfl _ _ _ rfl w.heap.size 0 rfl _ rfl [.string ⟨#[]⟩, .int .i64 0, .int .i64 0, .slice none 0 0] rfl 34 _ #[.string ⟨#[]⟩, .int .i64 0, .int .i64 0, .slice none 0 0] K1.out (by kernel_rfl) (by simp) (by simp [Value.oneCell']) rfl ?_; intro w9 k9 g9)
        | fail)
      refine bodyPost_ret (results_row2 rfl _ w9 w.heap.size 34 _ _ rfl k9 Try.underlying34 rfl (by kernel_rfl) _ rfl) rfl ?_
      exact ⟨none, HN.out, B1.out.grown g9 B1.out.size (fun j e => by injection e with e; omega), .inl ⟨rfl, rfl⟩⟩
  · obtain ⟨h0, rfl⟩ : n ≠ 0 ∧ n = s.size := by omega
    have hLg := longL_ge (s := nums s) (by rw [EN.out]; exact h0)
    obtain ⟨g5, gE, _⟩ := hLg
    rw [nums_len] at g5
    have h4 : 4 < s.size := by omega
    have b4 : s[4].toNat ≤ 255 := by have := s[4].toNat_lt; omega
    have g4 := getD_nums h4
    obtain ⟨a, ea⟩ : ∃ a, s[4].toNat = a := ⟨_, rfl⟩
    rw [ea] at b4 g4
    rw [EN.out, g4] at gE
    have hsz11 : 11 + a ≤ s.size := by
      clear hs'
      omega
    have k0 : 5 + a < s.size := by omega
    have k1 : 5 + a + 1 < s.size := by omega
    have b0 : s[5 + a].toNat ≤ 255 := by have := s[5 + a].toNat_lt; omega
    have b1 : s[5 + a + 1].toNat ≤ 255 := by have := s[5 + a + 1].toNat_lt; omega
    have q0 := getD_nums k0
    have q1 := getD_nums k1
    obtain ⟨W, eW⟩ : ∃ W, s[5 + a].toNat = W := ⟨_, rfl⟩
    obtain ⟨H, eH⟩ : ∃ H, s[5 + a + 1].toNat = H := ⟨_, rfl⟩
    rw [eW] at b0 q0
    rw [eH] at b1 q1
    have hni : ((s.size : Int) == 0) = false := by
      rw [beq_eq_false_iff_ne]
      omega
    have hns : (!((s.size : Int) == (s.size : Int))) = false := by simp
    -- the cells' bytes
    obtain ⟨sub, hsub⟩ : ∃ sub, s.extract (5 + a + 4) (s.size - 2) = sub := ⟨_, rfl⟩
    obtain ⟨nm, hnm⟩ : ∃ nm, s.extract 5 (5 + a) = nm := ⟨_, rfl⟩
    have MT : Hid (∀ x : Rdd, x.ok → x.whole = nums s → x.nm = nm ∧ W = x.W ∧ H = x.H ∧ nums sub = pack x.cs) := fun x hx he => by
      obtain ⟨m1, m2, m3, m4, m5, m6, m7, m8⟩ := load_match (s := s) (x := x) (r := []) (by rw [List.append_nil]; exact he) g4
      have hsz : s.size = 11 + a + (pack x.cs).length := by
        have h2 := congrArg List.length he
        unfold Rdd.whole at h2
        rw [wholeL_len, nums_len, m1] at h2
        omega
      refine ⟨by rw [← m2, hnm], by rw [← q0, m3], by rw [← q1, m4], ?_⟩
      rw [← hsub, show 5 + a + 4 = 9 + a from by omega, show s.size - 2 = 9 + a + (pack x.cs).length from by omega]
      exact m7
    have hsubl : sub.size ≤ maxLen := by rw [← hsub]; simp only [ByteArray.size_extract]; unfold maxLen; omega
    have hnml : nm.size ≤ maxLen := by rw [← hnm]; simp only [ByteArray.size_extract]; unfold maxLen; omega
    have UC := Lib.hid (fun w => l07Unpack_any sub w hsubl)
    have HSUB := Lib.hid hsub
    have HNM := Lib.hid hnm
    have i1 : (0 : Int) ≤ 5 + (a : Int) ∧ 5 + (a : Int) < (s.size : Int) := by omega
    have i2 : (0 : Int) ≤ 5 + (a : Int) + 1 ∧ 5 + (a : Int) + 1 < (s.size : Int) := by omega
    clear gE q0 q1 g4
    go_enter Try.func25, Try.ntmps25
    go_wp2_with fail
    rw [← EV.out]
    refine (LC.out _).mono ?_
    rintro e w1 ⟨rfl, m, hw1⟩
    have K1 := Lib.hid (show Blk w1 w.heap.size 34 #[.string ⟨#[]⟩, .int .i64 0, .int .i64 0, .slice none 0 0] by rw [hw1]; exact HK.out)
    have B1 := Lib.hid (show Below w.heap.size w w1 by rw [hw1]; exact below_drewN'' HB.out m)
    have z1 : Hid (w1.heap.size = w.heap.size + 1) := by rw [hw1]; exact HVZ.out
    clear hw1
    go_wp2_with fail
    refine (UC.out w1).mono ?_
    rintro e w2 ⟨r0, hu, hb2, hcase⟩
    have HU := Lib.hid hu
    have B2 := Lib.hid (B1.out.trans (hb2.mono B1.out.size))
    have K2 := Lib.hid (K1.out.below hb2 K1.out.lt)
    have Z2 : Hid (w.heap.size + 1 ≤ w2.heap.size) := by have := hb2.size; have := z1.out; unfold Hid; omega
    clear hu hb2
    rcases hcase with ⟨hr, rfl⟩ | ⟨cs, A, c, hr, rfl, ho⟩
    · have HR := Lib.hid hr
      clear hr
      go_wp2
      go_region
      have K3 := Lib.hid ((K2.out.alloc (.cells #[.string nm, .int .i64 (W : Int), .int .i64 (H : Int), .slice none 0 0] 34)).drew)
      have B3 := Lib.hid ((B2.out.alloc B2.out.size (.cells #[.string nm, .int .i64 (W : Int), .int .i64 (H : Int), .slice none 0 0] 34)).drew)
      have HN : Hid (Lod (nums s) none) := fun x hx he => by
        have hu := HU.out
        rw [HR.out] at hu
        obtain ⟨_, _, _, m4⟩ := MT.out x hx he
        exact hu x.cs (okC_parts hx).2.2.2 m4.symm
      generalize (w2.alloc (.cells #[.string nm, .int .i64 (W : Int), .int .i64 (H : Int), .slice none 0 0] 34)).drew = w3 at *
      go_wp2_with (first
        | (refine wpList_store_blk rfl _ _ _ rfl w.heap.size 0 rfl _ rfl [.string ⟨#[]⟩, .int .i64 0, .int .i64 0, .slice none 0 0] rfl 34 _ #[.string ⟨#[]⟩, .int .i64 0, .int .i64 0, .slice none 0 0] K3.out (by kernel_rfl) (by simp) (by simp [Value.oneCell']) rfl ?_; intro w9 k9 g9)
        | fail)
      refine bodyPost_ret (results_row2 rfl _ w9 w.heap.size 34 _ _ rfl k9 Try.underlying34 rfl (by kernel_rfl) _ rfl) rfl ?_
      exact ⟨none, HN.out, B3.out.grown g9 B3.out.size (fun j e => by injection e with e; omega), .inl ⟨rfl, rfl⟩⟩
    · have HR := Lib.hid hr
      have HO := Lib.hid ho
      have hu := HU.out
      rw [hr] at hu
      have HU2 := Lib.hid hu
      have hc256 : cs.length ≤ 256 := hu.1
      have hXN : Hid (∀ x : Rdd, x.ok → x.whole = nums s → x = ⟨nm, W, H, cs⟩) := fun x hx he => by
        obtain ⟨m1, m2, m3, m4⟩ := MT.out x hx he
        obtain ⟨xn, xW, xH, xc⟩ := x
        simp only at m1 m2 m3 m4
        have := HU2.out.2.2 xc (okC_parts hx).2.2.2 m4.symm
        subst m1 m2 m3 this
        rfl
      clear hr ho hu
      go_wp2
      go_region
      have K3 := Lib.hid ((K2.out.alloc (.cells #[.string nm, .int .i64 (W : Int), .int .i64 (H : Int), .slice A cs.length c] 34)).drew)
      have B3 := Lib.hid ((B2.out.alloc B2.out.size (.cells #[.string nm, .int .i64 (W : Int), .int .i64 (H : Int), .slice A cs.length c] 34)).drew)
      have X3 := Lib.hid (show Blk (w2.alloc (.cells #[.string nm, .int .i64 (W : Int), .int .i64 (H : Int), .slice A cs.length c] 34)).drew w2.heap.size 34 #[.string nm, .int .i64 (W : Int), .int .i64 (H : Int), .slice A cs.length c] from Blk.new w2 _ _)
      have O3 := Lib.hid (show (w2.alloc (.cells #[.string nm, .int .i64 (W : Int), .int .i64 (H : Int), .slice A cs.length c] 34)).drew.ownsRow w1.heap.size 4 1 (.slice A cs.length c) cs.length (cs.map bv) from HO.out.alloc _)
      have Z3 : Hid (w2.heap.size < (w2.alloc (.cells #[.string nm, .int .i64 (W : Int), .int .i64 (H : Int), .slice A cs.length c] 34)).drew.heap.size) := by show _ < (w2.heap.push _).size; simp
      generalize (w2.alloc (.cells #[.string nm, .int .i64 (W : Int), .int .i64 (H : Int), .slice A cs.length c] 34)).drew = w3 at *
      have SHC := Lib.hid (l07Shape_any nm W H A cs.length c w2.heap.size 0 w3 hnml (X3.out.cell 0) (X3.out.cell 1) (X3.out.cell 2) (X3.out.cell 3))
      cases hok : okSh nm (W : Int) (H : Int) cs.length
      · rw [hok] at SHC
        have HN : Hid (Lod (nums s) none) := fun x hx he => by
          have e := hXN.out x hx he
          subst e
          unfold Rdd.ok OkC at hx
          rw [hok] at hx
          cases hx
        clear hok
        go_wp2_with fail
        refine SHC.out.mono ?_
        rintro e w4 ⟨rfl, m4, hw4⟩
        have K4 := Lib.hid (show Blk w4 w.heap.size 34 #[.string ⟨#[]⟩, .int .i64 0, .int .i64 0, .slice none 0 0] by rw [hw4]; exact K3.out)
        have B4 := Lib.hid (show Below w.heap.size w w4 by rw [hw4]; exact below_drewN'' B3.out m4)
        clear hw4
        go_wp2_with (first
          | (refine wpList_store_blk rfl _ _ _ rfl w.heap.size 0 rfl _ rfl [.string ⟨#[]⟩, .int .i64 0, .int .i64 0, .slice none 0 0] rfl 34 _ #[.string ⟨#[]⟩, .int .i64 0, .int .i64 0, .slice none 0 0] K4.out (by kernel_rfl) (by simp) (by simp [Value.oneCell']) rfl ?_; intro w9 k9 g9)
          | fail)
        refine bodyPost_ret (results_row2 rfl _ w9 w.heap.size 34 _ _ rfl k9 Try.underlying34 rfl (by kernel_rfl) _ rfl) rfl ?_
        exact ⟨none, HN.out, B4.out.grown g9 B4.out.size (fun j e => by injection e with e; omega), .inl ⟨rfl, rfl⟩⟩
      · rw [hok] at SHC
        have HOK : Hid (OkC nm W H cs) := hok
        obtain ⟨p1, p2, p3, p4⟩ := okC_parts hok
        clear hok
        go_wp2_with fail
        refine SHC.out.mono ?_
        rintro e w4 ⟨rfl, m4, hw4⟩
        have K4 := Lib.hid (show Blk w4 w.heap.size 34 #[.string ⟨#[]⟩, .int .i64 0, .int .i64 0, .slice none 0 0] by rw [hw4]; exact K3.out)
        have X4 := Lib.hid (show Blk w4 w2.heap.size 34 #[.string nm, .int .i64 (W : Int), .int .i64 (H : Int), .slice A cs.length c] by rw [hw4]; exact X3.out)
        have B4 := Lib.hid (show Below w.heap.size w w4 by rw [hw4]; exact below_drewN'' B3.out m4)
        have O4 := Lib.hid (show w4.ownsRow w1.heap.size 4 1 (.slice A cs.length c) cs.length (cs.map bv) by rw [hw4]; exact O3.out)
        have Z4 : Hid (w2.heap.size < w4.heap.size) := by rw [hw4]; exact Z3.out
        clear hw4
        have STC := Lib.hid (l07Store_any w2.heap.size 0 nm W H cs.length A c cs w4 p1 p2 p3 p4 rfl Z4.out (X4.out.cell 0) (X4.out.cell 1) (X4.out.cell 2) (X4.out.cell 3) (Rd.own O4.out))
        obtain ⟨q, eq⟩ : ∃ q, txt (wholeL nm W H cs) = q := ⟨_, rfl⟩
        rw [eq] at STC
        have HQL : Hid (nums q = wholeL nm W H cs) := by unfold Hid; rw [← eq, nums_txt (wholeL_lt p1 p2 p3 p4)]
        clear eq
        by_cases hq : q = s
        · subst hq
          have hqq := str_eq q
          go_wp2_with fail
          refine STC.out.mono ?_
          rintro e w5 ⟨rfl, hb5⟩
          have K5 := Lib.hid (K4.out.below hb5 K4.out.lt)
          have X5 := Lib.hid (X4.out.below hb5 X4.out.lt)
          have B5 := Lib.hid (B4.out.trans (hb5.mono B4.out.size))
          have O5 := Lib.hid (own_below O4.out hb5)
          clear hb5
          go_wp2_with (first
            | (refine wpList_load_blk rfl _ _ rfl w2.heap.size 0 rfl 34 _ X5.out [.string nm, .int .i64 (W : Int), .int .i64 (H : Int), .slice A cs.length c] rfl _ Try.underlying34 rfl (by kernel_rfl) ?_)
            | (refine wpList_store_blk rfl _ _ _ rfl w.heap.size 0 rfl _ rfl [.string nm, .int .i64 (W : Int), .int .i64 (H : Int), .slice A cs.length c] rfl 34 _ #[.string nm, .int .i64 (W : Int), .int .i64 (H : Int), .slice A cs.length c] K5.out (by kernel_rfl) (by simp) (by simp [Value.oneCell']) rfl ?_; intro w9 k9 g9)
            | fail)
          refine bodyPost_ret (results_row2 rfl _ w9 w.heap.size 34 _ _ rfl k9 Try.underlying34 rfl (by kernel_rfl) _ rfl) rfl ?_
          refine ⟨some ⟨nm, W, H, cs⟩, ⟨HOK.out, HQL.out.symm⟩, B5.out.grown g9 B5.out.size (fun j e => by injection e with e; omega), .inr ⟨⟨nm, W, H, cs⟩, A, c, rfl, rfl, ?_⟩⟩
          exact own_base (own_grown' O5.out g9 (own_blk_ne O5.out K5.out (by decide))) (by have := z1.out; omega)
        · have hqq := str_ne hq
          have HN : Hid (Lod (nums s) none) := fun x hx he => by
            have e := hXN.out x hx he
            subst e
            apply hq
            have e2 : nums q = nums s := by rw [HQL.out]; exact he
            rw [← txt_nums q, ← txt_nums s, e2]
          clear hq
          go_wp2_with fail
          refine STC.out.mono ?_
          rintro e w5 ⟨rfl, hb5⟩
          have K5 := Lib.hid (K4.out.below hb5 K4.out.lt)
          have B5 := Lib.hid (B4.out.trans (hb5.mono B4.out.size))
          clear hb5
          go_wp2_with (first
            | (refine wpList_store_blk rfl _ _ _ rfl w.heap.size 0 rfl _ rfl [.string ⟨#[]⟩, .int .i64 0, .int .i64 0, .slice none 0 0] rfl 34 _ #[.string ⟨#[]⟩, .int .i64 0, .int .i64 0, .slice none 0 0] K5.out (by kernel_rfl) (by simp) (by simp [Value.oneCell']) rfl ?_; intro w9 k9 g9)
            | fail)
          refine bodyPost_ret (results_row2 rfl _ w9 w.heap.size 34 _ _ rfl k9 Try.underlying34 rfl (by kernel_rfl) _ rfl) rfl ?_
          exact ⟨none, HN.out, B5.out.grown g9 B5.out.size (fun j e => by injection e with e; omega), .inl ⟨rfl, rfl⟩⟩
end Go.Proofs.Ytlklpfjcnbkhlaa

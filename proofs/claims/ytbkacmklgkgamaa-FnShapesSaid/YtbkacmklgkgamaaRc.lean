/- Walks: RecoverShapes, by the program and by the reference. Condition: the text is shorter than 2^63. -/
import Derived.Test.YtbkacmklgkgamaaLw
import Derived.Deep.LoopGhost
namespace Go.Proofs.Ytbkacmklgkgamaa
open Go.RowKit

def catR (L : List Rdd) : List Nat := L.flatMap Rdd.whole
theorem catR_snoc (L : List Rdd) (x : Rdd) : catR (L ++ [x]) = catR L ++ x.whole := by
  unfold catR
  rw [List.flatMap_append]
  simp
/-- The most shapes, up to b, that s begins with. -/
def RecE (s : List Nat) (b : Nat) (L : List Rdd) : Prop := (∀ x ∈ L, x.ok) ∧ L.length ≤ b ∧ ∃ r, catR L ++ r = s ∧ (L.length = b ∨ LodP r none)
theorem recE_uniq : ∀ (L M : List Rdd) (s : List Nat) (b : Nat), RecE s b L → RecE s b M → L = M := by
  intro L
  induction L with
  | nil =>
    intro M s b hL hM
    cases M with
    | nil => rfl
    | cons y M =>
      obtain ⟨_, _, r, hr, hl⟩ := hL
      obtain ⟨hok, hlen, r', hr', _⟩ := hM
      rcases hl with hl | hl
      · simp at hl hlen; omega
      · have e : y.whole ++ (catR M ++ r') = r := by
          have e1 : catR [] ++ r = r := rfl
          rw [← e1, hr, ← hr']
          simp [catR]
        exact absurd e (hl y (hok y (by simp)) _)
  | cons x L ih =>
    intro M s b hL hM
    cases M with
    | nil =>
      obtain ⟨_, _, r, hr, hl⟩ := hM
      obtain ⟨hok, hlen, r', hr', _⟩ := hL
      rcases hl with hl | hl
      · simp at hl hlen; omega
      · have e : x.whole ++ (catR L ++ r') = r := by
          have e1 : catR [] ++ r = r := rfl
          rw [← e1, hr, ← hr']
          simp [catR]
        exact absurd e (hl x (hok x (by simp)) _)
    | cons y M =>
      obtain ⟨ho1, hl1, r, hr, hs1⟩ := hL
      obtain ⟨ho2, hl2, r', hr', hs2⟩ := hM
      have e1 : catR (x :: L) ++ r = x.whole ++ (catR L ++ r) := by simp [catR]
      have e2 : catR (y :: M) ++ r' = y.whole ++ (catR M ++ r') := by simp [catR]
      have e : x.whole ++ (catR L ++ r) = y.whole ++ (catR M ++ r') := by rw [← e1, ← e2, hr, hr']
      have hxy := rdd_inj e
      subst hxy
      have e3 := List.append_cancel_left e
      simp only [List.length_cons] at hl1 hl2 hs1 hs2
      have := ih M (catR L ++ r) (b - 1) ⟨fun z hz => ho1 z (by simp [hz]), by omega, r, rfl, by rcases hs1 with h | h; exact .inl (by omega); exact .inr h⟩
        ⟨fun z hz => ho2 z (by simp [hz]), by omega, r', e3.symm, by rcases hs2 with h | h; exact .inl (by omega); exact .inr h⟩
      rw [this]
def Rdd.ct (x : Rdd) : ByteArray × Int × Int × List Bool := (x.nm, (x.W : Int), (x.H : Int), x.cs)
def Shp.sl (s : Shp) : Value := .slice s.A s.cs.length s.c
def Rdd.shp (x : Rdd) (A : Option Addr) (c : Nat) : Shp := ⟨x.nm, (x.W : Int), (x.H : Int), A, c, x.cs⟩
/-- A list of shapes in memory of the call's own. -/
structure MS (w : World) (base g c : Nat) (L : List Rdd) (M : List Shp) : Prop where
  ct : M.map Shp.ct = L.map Rdd.ct
  own : w.ownsRow base 33 4 (.slice (some ⟨g, 0, none⟩) L.length c) L.length (shCells M)
  cells : ShO w base M
  apart : M.Pairwise fun a b => Dis a.sl b.sl
section
variable {w w' : World} {base g c : Nat} {L : List Rdd} {M : List Shp}
theorem MS.below (h : MS w base g c L M) (hb : Below w.heap.size w w') : MS w' base g c L M := ⟨h.ct, own_below h.own hb, h.cells.below hb, h.apart⟩
theorem MS.boxed {o : Obj} (h : MS w base g c L M) (hg : (w.alloc o).grownBy w' (some w.heap.size)) : MS w' base g c L M := ⟨h.ct, own_boxed h.own hg, fun s hs => own_boxed (h.cells s hs) hg, h.apart⟩
theorem MS.len (h : MS w base g c L M) : M.length = L.length := by have := congrArg List.length h.ct; simpa using this
theorem MS.base_ {base' : Nat} (h : MS w base g c L M) (hB : base' ≤ base) : MS w base' g c L M := ⟨h.ct, own_base h.own hB, fun s hs => own_base (h.cells s hs) hB, h.apart⟩
/-- One shape more. -/
theorem MS.snoc {g' c' : Nat} (h : MS w base g c L M) {x : Rdd} {A : Option Addr} {cx : Nat} {b' : Nat} (hx : w.ownsRow b' 4 1 (.slice A x.cs.length cx) x.cs.length (x.cs.map bv)) (hb : base ≤ b') (hd : ∀ s ∈ M, Dis (.slice A x.cs.length cx) s.sl)
    (ho : w'.ownsRow base 33 4 (.slice (some ⟨g', 0, none⟩) (L.length + 1) c') (L.length + 1) (shCells M ++ [.string x.nm, .int .i64 (x.W : Int), .int .i64 (x.H : Int), .slice A x.cs.length cx])) (hg : w.grownBy w' (Value.slice (some ⟨g, 0, none⟩) L.length c).ownBlock) :
    MS w' base g' c' (L ++ [x]) (M ++ [x.shp A cx]) := by
  refine ⟨by rw [List.map_append, List.map_append, h.ct]; rfl, ?_, ?_, ?_⟩
  · rw [List.length_append, List.length_singleton, shCells_snoc]
    exact ho
  · intro s hs
    rw [List.mem_append] at hs
    rcases hs with hs | hs
    · exact own_kept (h.cells s hs) hg (Dis.types (h.cells s hs) h.own (by decide))
    · simp at hs
      subst hs
      exact own_base (own_kept hx hg (Dis.types hx h.own (by decide))) hb
  · rw [List.pairwise_append]
    refine ⟨h.apart, List.pairwise_singleton _ _, fun a ha b hb => ?_⟩
    simp at hb
    subst hb
    exact (hd a ha).symm
end
theorem shapeOne (x : Rdd) (A : Option Addr) (c : Nat) (W : World) : ∀ j u, ([.string x.nm, .int .i64 (x.W : Int), .int .i64 (x.H : Int), .slice A x.cs.length c] : List Value)[j]? = some u →
    (W.alloc (.cells #[.string x.nm, .int .i64 (x.W : Int), .int .i64 (x.H : Int), .slice A x.cs.length c] 33)).cell? ((⟨W.heap.size, 0, none⟩ : Addr).add j) = some u := by
  intro j u hu
  rw [Addr.add_mid, Nat.zero_add]
  have hk := Blk.new W 33 #[.string x.nm, .int .i64 (x.W : Int), .int .i64 (x.H : Int), .slice A x.cs.length c]
  rw [hk.cell j]
  simpa using hu
theorem nums_from {s : ByteArray} {p : Nat} : nums (s.extract p s.size) = (nums s).drop p := by
  rw [nums_extract, List.take_of_length_le]
  rw [List.length_drop, nums_len]
  exact Nat.le_refl _
/-- What both recoveries give. -/
def RecOut (s : ByteArray) (w : World) (e : Ending) (w' : World) : Prop := ∃ (L : List Rdd) (M : List Shp) (g c : Nat), RecE (nums s) 8 L ∧
  e = .returned (.tuple #[.slice (some ⟨g, 0, none⟩) L.length c, .int .i64 (((catR L).length : Nat) : Int), .bool true]) ∧ MS w' w.heap.size g c L M ∧ Below w.heap.size w w'
set_option maxRecDepth 100000 in
set_option maxHeartbeats 4000000 in
theorem implRecover_any (s : ByteArray) (w : World) (hs : s.size ≤ maxLen) : Calls Try.prog 15 #[.string s] w (RecOut s w) := by
  have hs' := hs
  unfold maxLen at hs
  obtain ⟨i0, hi, hz0, hz1, hz2⟩ := info_parts shapeInfo
  go_enter Try.func15, Try.ntmps15
  go_wp2
  go_loopg [5, 6] 8 (fun gk so sa wr => ∃ (L : List Rdd) (M : List Shp) (g c : Nat), so = .slice (some ⟨g, 0, none⟩) L.length c ∧ sa = .int .i64 (((catR L).length : Nat) : Int) ∧ Hid (L.length + gk = 8) ∧ Hid (∀ x ∈ L, x.ok) ∧ Hid (∃ r, catR L ++ r = nums s) ∧ Hid (MS wr w.heap.size g c L M) ∧ Below w.heap.size w wr)
  case atStart => exact ⟨[], [], w.heap.size, 0, rfl, rfl, rfl, fun x hx => by simp at hx, ⟨nums s, rfl⟩, ⟨rfl, (Blk.new w _ _).own (n := 0) (size := 4) (Nat.le_refl _) rfl (by unfold maxLen; omega), fun s hs => by simp at hs, List.Pairwise.nil⟩, (Below.refl _ _).alloc (Nat.le_refl _) _⟩
  case round =>
    obtain ⟨L, M, g, c, rfl, rfl, HG, HO, HP, HM, hb⟩ := hrel
    have HB := Lib.hid hb
    have hgk := HG.out
    obtain ⟨p, hp⟩ : ∃ p, (catR L).length = p := ⟨_, rfl⟩
    have hps : p ≤ s.size := by
      obtain ⟨r, hr⟩ := HP.out
      have := congrArg List.length hr
      rw [List.length_append, nums_len] at this
      omega
    have HPP := Lib.hid hp
    rw [hp]
    have hdr : Hid (catR L ++ (nums s).drop p = nums s) := by
      obtain ⟨r, hr⟩ := HP.out
      unfold Hid
      rw [← hr, ← hp, List.drop_left]
    clear hb hp
    by_cases h8 : L.length < 8
    · obtain ⟨t, ht⟩ : ∃ t, s.extract p s.size = t := ⟨_, rfl⟩
      have HT : Hid (nums t = (nums s).drop p) := by unfold Hid; rw [← ht, nums_from]
      have htl : t.size ≤ maxLen := by rw [← ht]; simp only [ByteArray.size_extract]; unfold maxLen; omega
      have LC := Lib.hid (load_any t wr htl)
      unfold LoadPOut zeroSh shV at LC
      have hpi : (0 : Int) ≤ (p : Int) ∧ (p : Int) ≤ (s.size : Int) := by omega
      go_wp2_with fail
      refine LC.out.mono ?_
      rintro e w1 ⟨r, hr, hb1, hcase⟩
      rw [HT.out] at hr
      have HR := Lib.hid hr
      have z1 := hb1.size
      have B1 := Lib.hid (HB.out.trans (hb1.mono HB.out.size))
      have M1 := Lib.hid (HM.out.below hb1)
      clear hr hb1
      rcases hcase with ⟨hn, rfl⟩ | ⟨x, n, A, cx, hn, rfl, ho⟩
      · subst hn
        go_wp2_with (first
          | (refine wpList_store_blk rfl _ _ _ rfl w1.heap.size 0 rfl _ rfl [.string ⟨#[]⟩, .int .i64 0, .int .i64 0, .slice none 0 0] rfl 33 #[.string ⟨#[]⟩, .int .i64 0, .int .i64 0, .slice none 0 0] #[.string ⟨#[]⟩, .int .i64 0, .int .i64 0, .slice none 0 0] (Blk.new _ _ _) (by kernel_rfl) (by simp) (by simp [Value.oneCell']) rfl ?_; intro w2 k2 g2
             have B2 := Lib.hid (below_boxed B1.out B1.out.size g2)
             have M2 := Lib.hid (M1.out.boxed g2)
             clear k2 g2)
          | fail)
        go_ret3
        exact ⟨L, M, g, c, ⟨HO.out, by omega, _, hdr.out, .inr HR.out⟩, by rw [HPP.out]; rfl, M2.out, B2.out⟩
      · subst hn
        have HX := Lib.hid ho
        have DX := Lib.hid (fun t (ht : t ∈ M) => (Dis.of_lt ho (Old.own (HM.out.cells t ht)) : Dis (.slice A x.cs.length cx) t.sl))
        obtain ⟨q1, q2, q3⟩ := HR.out
        rw [List.length_drop, nums_len] at q2
        have HQ1 := Lib.hid q1
        have HQ3 := Lib.hid q3
        have hn1 : n ≤ s.size := by omega
        clear ho q1 q3 HR
        go_wp2_with (first
          | (refine wpList_store_blk rfl _ _ _ rfl w1.heap.size 0 rfl _ rfl [.string x.nm, .int .i64 (x.W : Int), .int .i64 (x.H : Int), .slice A x.cs.length cx] rfl 33 #[.string ⟨#[]⟩, .int .i64 0, .int .i64 0, .slice none 0 0] #[.string x.nm, .int .i64 (x.W : Int), .int .i64 (x.H : Int), .slice A x.cs.length cx] (Blk.new _ _ _) (by kernel_rfl) (by simp) (by simp [Value.oneCell']) rfl ?_; intro w2 k2 g2
             have B2 := Lib.hid (below_boxed B1.out B1.out.size g2)
             have M2 := Lib.hid (M1.out.boxed g2)
             have X2 := Lib.hid (own_boxed HX.out g2)
             have K2 := Lib.hid k2
             have MA := Lib.hid (M2.out.own.alloc (.cells #[.string x.nm, .int .i64 (x.W : Int), .int .i64 (x.H : Int), .slice A x.cs.length cx] 33))
             have hzA : w.heap.size ≤ (w2.alloc (.cells #[.string x.nm, .int .i64 (x.W : Int), .int .i64 (x.H : Int), .slice A x.cs.length cx] 33)).heap.size := by have := B2.out.size; simp; omega
             clear k2 g2)
          | (refine wpList_load_blk rfl _ _ rfl w1.heap.size 0 rfl 33 _ K2.out [.string x.nm, .int .i64 (x.W : Int), .int .i64 (x.H : Int), .slice A x.cs.length cx] rfl _ Try.underlying33 rfl (by kernel_rfl) ?_)
          | (at_builtin; refine wpList_append_own_at (P := Try.prog) (w2.alloc (.cells #[.string x.nm, .int .i64 (x.W : Int), .int .i64 (x.H : Int), .slice A x.cs.length cx] 33)) rfl _ _ _ rfl w.heap.size 33 i0 (.agg #[.string ⟨#[]⟩, .int .i64 0, .int .i64 0, .slice none 0 0]) 4 56 Try.underlying24 hi hz0 hz1 hz2 rfl (by omega) (.slice (some ⟨g, 0, none⟩) L.length c) L.length (shCells M) rfl MA.out ⟨w2.heap.size, 0, none⟩ 1 1 _ rfl rfl (shapeOne x A cx w2) (by simp [Value.oneCell']) (by unfold maxLen; omega) (by omega) hzA ?_; intro v3 w3 ho3 hg3 hn3 hd3)
          | fail)
        obtain ⟨g3, c3, rfl, _, _⟩ := ho3.form (by omega)
        have B3 := Lib.hid ((B2.out.alloc B2.out.size _).grown hg3 hzA (fun k e => (MA.out.lt k e).1))
        have hg3' := grown_trans' (World.grownBy_alloc w2 (.cells #[.string x.nm, .int .i64 (x.W : Int), .int .i64 (x.H : Int), .slice A x.cs.length cx] 33) _) hg3
        have M3 := Lib.hid (M2.out.snoc X2.out HB.out.size DX.out ho3 hg3')
        go_roundg (gk - 1)
        case measure => omega
        case rel =>
          have hcl : (catR (L ++ [x])).length = p + n := by
            rw [catR_snoc, List.length_append, HPP.out, HQ3.out, List.length_take, List.length_drop, nums_len]
            omega
          refine ⟨L ++ [x], M ++ [x.shp A cx], g3, c3, by rw [List.length_append, List.length_singleton], by rw [hcl]; go_num, by unfold Hid; rw [List.length_append, List.length_singleton]; omega, fun y hy => ?_, ⟨((nums s).drop p).drop n, ?_⟩, M3.out, B3.out⟩
          · rw [List.mem_append] at hy
            rcases hy with hy | hy
            · exact HO.out y hy
            · simp at hy; subst hy; exact HQ1.out
          · rw [catR_snoc, HQ3.out, List.append_assoc, List.take_append_drop]
            exact hdr.out
    · have hl8 : L.length = 8 := by omega
      go_wp2
      go_ret3
      exact ⟨L, M, g, c, ⟨HO.out, by omega, _, hdr.out, .inl hl8⟩, by rw [HPP.out]; rfl, HM.out, HB.out⟩
end Go.Proofs.Ytbkacmklgkgamaa

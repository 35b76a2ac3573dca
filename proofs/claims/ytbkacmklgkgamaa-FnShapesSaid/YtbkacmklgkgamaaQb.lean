/- Walks: the bytes' lengths and numbers; shapes that the reference draws out of bytes; packing by the program. Conditions: at most 2^20 bytes. -/
import Derived.Test.YtbkacmklgkgamaaRc
import Derived.Test.YtbkacmklgkgamaaIo
namespace Go.Proofs.Ytbkacmklgkgamaa
open Go.RowKit

set_option maxRecDepth 100000 in
theorem b10Long_any (A A' : Option Addr) (n c n' c' : Nat) (w : World) (hn : n ≤ maxLen) (hn' : n' ≤ maxLen) :
    Calls Try.prog 6 #[.slice A n c, .slice A' n' c'] w fun e w' => e = .returned (.bool (decide (1048576 < n) || decide (1048576 < n'))) ∧ w' = w := by
  unfold maxLen at hn hn'
  by_cases h1 : 1048576 < n
  · go_enter Try.func6, Try.ntmps6
    go_wp2
    go_ret
    exact ⟨ret_bool (by simp [h1]), rfl⟩
  · by_cases h2 : 1048576 < n'
    · go_enter Try.func6, Try.ntmps6
      go_wp2
      go_ret
      exact ⟨ret_bool (by rw [Bool.eq_iff_iff]; simp; omega), rfl⟩
    · go_enter Try.func6, Try.ntmps6
      go_wp2
      go_ret
      exact ⟨ret_bool (by rw [Bool.eq_iff_iff]; simp; omega), rfl⟩
set_option maxRecDepth 100000 in
set_option maxHeartbeats 1000000 in
theorem b10At_val (A : Option Addr) (n c i k : Nat) (bs : List Nat) (hl : bs.length = n) (hn : n ≤ 1048576) (hi : i ≤ 1000) (hk : 2 ≤ k) (hk2 : k ≤ 256) (hb : ∀ x ∈ bs, x < 256) : ∃ y : Nat, y < k ∧ ∀ (B : Nat) (w : World), Rd w B 1 A n (bs.map u8v) →
    Calls Try.prog 16 #[.slice A n c, .int .i64 (i : Int), .int .i64 (k : Int)] w fun e w' => e = .returned (.int .i64 (y : Int)) ∧ w' = w := by
  have hki : decide ((k : Int) ≤ 1) = false := by simp; omega
  by_cases h : i < n
  · obtain ⟨x, hx⟩ : ∃ x, bs[i]? = some x := ⟨_, List.getElem?_eq_getElem (by omega)⟩
    have hx256 := hb x (List.mem_of_getElem? hx)
    have hm : (x : Int) % (k : Int) = ((x % k : Nat) : Int) := by simp
    have hmk : x % k < k := Nat.mod_lt _ (by omega)
    obtain ⟨y, ey⟩ : ∃ y, x % k = y := ⟨_, rfl⟩
    rw [ey] at hm hmk
    refine ⟨y, hmk, fun B w hA => ?_⟩
    obtain ⟨b, off, rfl, _, hc⟩ := hA.2 (by omega)
    have cx : w.cell? ⟨b, off + i, none⟩ = some (.int .u8 (x : Int)) := hc i _ (by rw [List.getElem?_map, hx]; rfl)
    clear hc hx ey hb hA hmk hl
    go_enter Try.func16, Try.ntmps16
    go_wp2
    go_ret
    exact ⟨ret_i hm, rfl⟩
  · have hm : ((i : Int) * 37 + 11) % (k : Int) = (((i * 37 + 11) % k : Nat) : Int) := by simp
    have hmk : (i * 37 + 11) % k < k := Nat.mod_lt _ (by omega)
    obtain ⟨y, ey⟩ : ∃ y, (i * 37 + 11) % k = y := ⟨_, rfl⟩
    rw [ey] at hm hmk
    refine ⟨y, hmk, fun B w hA => ?_⟩
    clear ey hb hA hmk hl
    go_enter Try.func16, Try.ntmps16
    go_wp2
    go_ret
    exact ⟨ret_i hm, rfl⟩
set_option maxRecDepth 100000 in
set_option maxHeartbeats 1000000 in
theorem text_any (g n c at_ b : Nat) (A : Option Addr) (bs : List Nat) (cs : Array Value) (w : World) (hat : at_ ≤ 1099511627776) (h : Src w g A n c at_ bs) (hk : Blk w b 9 cs) (h4 : cs.size = 4) (hP : ∀ (i : Nat) (x : Value), cs[i]? = some x → ∃ s : ByteArray, x = .string s ∧ nameB s = true ∧ s.size ≤ 5) :
    Calls Try.prog 27 #[.pointer (some ⟨g, 0, none⟩), .slice (some ⟨b, 0, none⟩) 4 4] w fun e w' => ∃ s : ByteArray, e = .returned (.string s) ∧ nameB s = true ∧ s.size ≤ 5 ∧ Src w' g A n c (at_ + 1) bs ∧ w.grownBy w' (some g) := by
  have PC := Lib.hid (pick_any g n c at_ 4 A bs w hat (by omega) (by omega) h)
  have hne : b ≠ g := by
    obtain ⟨s, _, _, hb⟩ := h.blk
    exact hk.ne_ hb (by decide)
  have HK := Lib.hid hk
  have HP := Lib.hid hP
  clear hk h hP
  go_enter Try.func27, Try.ntmps27
  go_wp2_with fail
  refine PC.out.mono ?_
  rintro e w1 ⟨x, rfl, hx, hs, hg⟩
  have K1 := HK.out.grown hg (fun e => by injection e with e; omega)
  obtain ⟨v, hv⟩ : ∃ v, cs[x]? = some v := ⟨_, Array.getElem?_eq_getElem (by omega)⟩
  obtain ⟨s, rfl, hs1, hs2⟩ := HP.out x v hv
  have cx : w1.cell? ⟨b, x, none⟩ = some (.string s) := by rw [K1.cell x, hv]
  have HS := Lib.hid hs
  have HG := Lib.hid hg
  have H1 := Lib.hid hs1
  have H2 := Lib.hid hs2
  clear hs hg K1 hv hs1 hs2 PC HK HP
  go_wp2
  go_ret
  exact ⟨s, rfl, H1.out, H2.out, HS.out, HG.out⟩
set_option maxRecDepth 100000 in
theorem PackCells_any (N : Nat) (A : Option Addr) (c B : Nat) (cs : List Bool) (w : World) (hN : N ≤ 256) (hl : cs.length = N) (hB : B ≤ w.heap.size) (hA : Rd w B 1 A N (cs.map bv)) :
    Calls Try.prog 10 #[.slice A N c] w fun e w' => e = .returned (.tuple #[.string (txt (pack cs)), .bool true]) ∧ Below w.heap.size w w' := by
  have PC := Lib.hid (pack_any N A c B cs w hN hl hB hA)
  clear hA
  go_enter Try.func10, Try.ntmps10
  go_wp2_with fail
  refine PC.out.mono ?_
  rintro e w1 ⟨g, c', rfl, ho, hb⟩
  have CV := conv_string (P := Try.prog) ho 22 9 5 Try.underlying22 Try.underlying5 Try.underlying9
  have HB := Lib.hid hb
  clear ho hb
  go_wp2
  go_ret2
  exact ⟨rfl, HB.out⟩
theorem MS.grown {w w' : World} {base g c k : Nat} {L : List Rdd} {M : List Shp} (h : MS w base g c L M) (hg : w.grownBy w' (some k)) (hk : k < base) : MS w' base g c L M :=
  ⟨h.ct, own_grown h.own hg hk, fun s hs => own_grown (h.cells s hs) hg hk, h.apart⟩
theorem MS.alloc {w : World} {base g c : Nat} {L : List Rdd} {M : List Shp} (h : MS w base g c L M) (o : Obj) : MS (w.alloc o) base g c L M := h.below ((Below.refl _ _).alloc (Nat.le_refl _) o)
def shNames : Array Value := #[.string ⟨#[97]⟩, .string ⟨#[99, 111, 97, 115, 116]⟩, .string ⟨#[99, 108, 111, 117, 100]⟩, .string ⟨#[122, 122]⟩]
theorem shNames_ok : ∀ (i : Nat) (x : Value), shNames[i]? = some x → ∃ s : ByteArray, x = .string s ∧ nameB s = true ∧ s.size ≤ 5 := by
  intro i x h
  match i with
  | 0 => exact ⟨_, (Option.some.inj h).symm, by decide, by decide⟩
  | 1 => exact ⟨_, (Option.some.inj h).symm, by decide, by decide⟩
  | 2 => exact ⟨_, (Option.some.inj h).symm, by decide, by decide⟩
  | 3 => exact ⟨_, (Option.some.inj h).symm, by decide, by decide⟩
  | n + 4 => simp [shNames] at h
theorem ok_drawn {s : ByteArray} {W H : Nat} {cs : List Bool} (hs : nameB s = true) (h1 : 1 ≤ W) (h2 : W ≤ 6) (h3 : 1 ≤ H) (h4 : H ≤ 6) (hl : cs.length = W * H) : OkC s W H cs := by
  unfold OkC okSh validB
  rw [hs, hl]
  have : W * H ≤ 36 := Nat.mul_le_mul h2 h4
  simp
  omega
/-- What the reference draws: a list of at most four valid shapes. -/
def DrawnS (w : World) (e : Ending) (w' : World) : Prop := ∃ (L : List Rdd) (M : List Shp) (g c : Nat), e = .returned (.slice (some ⟨g, 0, none⟩) L.length c) ∧ L.length ≤ 4 ∧ (∀ x ∈ L, x.ok) ∧ MS w' w.heap.size g c L M ∧ Below w.heap.size w w'
set_option maxRecDepth 100000 in
set_option maxHeartbeats 4000000 in
theorem B10Shapes_any (n c : Nat) (A : Option Addr) (bs : List Nat) (w : World) (hn : n ≤ 1048576) (hc : n ≤ c) (hb : ∀ x ∈ bs, x < 256) (hA : Rd w w.heap.size 1 A n (bs.map u8v)) :
    Calls Try.prog 7 #[.slice A n c] w (DrawnS w) := by
  obtain ⟨i0, hi, hi0, hi1, hi2⟩ := info_parts shapeInfo
  obtain ⟨u, eu⟩ : ∃ u, u = w.alloc (.cells #[.slice A n c, .int .i64 0, .int .u64 0] 84) := ⟨_, rfl⟩
  have hz : u.heap.size = w.heap.size + 1 := by rw [eu]; simp
  have S0 : Hid (Src u w.heap.size A n c 0 bs) := by
    rw [eu]
    exact ⟨⟨0, by omega, by omega, Blk.new _ _ _⟩, (hA.below ((Below.refl _ _).alloc (by omega) _)).more (by omega), hb, hn, hc⟩
  have G0 : Hid (Below w.heap.size w u) := by rw [eu]; exact (Below.refl _ _).alloc (Nat.le_refl _) _
  have FC : Hid (Calls Try.prog 25 #[.slice A n c] w fun e w' => e = .returned (.pointer (some ⟨w.heap.size, 0, none⟩)) ∧ w' = u) := by rw [eu]; exact l00From_any A n c w
  obtain ⟨v, ev⟩ : ∃ v, v = u.alloc (.cells #[] 33) := ⟨_, rfl⟩
  have hzv : v.heap.size = w.heap.size + 2 := by rw [ev]; simp; omega
  have S1 : Hid (Src v w.heap.size A n c 0 bs) := by rw [ev]; exact S0.out.alloc _
  have G1 : Hid (Below w.heap.size w v) := by rw [ev]; exact G0.out.alloc G0.out.size _
  have M1 : Hid (MS v (w.heap.size + 1) u.heap.size 0 [] []) := by
    rw [ev]
    exact ⟨rfl, (Blk.new u _ _).own (n := 0) (size := 4) (by omega) rfl (by unfold maxLen; omega), fun s hs => by simp at hs, List.Pairwise.nil⟩
  have PC := Lib.hid (pick_any w.heap.size n c 0 5 A bs v (by omega) (by omega) (by omega) S1.out)
  have EV := Lib.hid ev
  clear eu ev hA hb S0 G0
  go_enter Try.func7, Try.ntmps7
  go_wp2_with fail
  refine FC.out.mono ?_
  rintro e u' ⟨rfl, hu⟩
  obtain rfl := hu.symm
  go_wp2_with fail
  rw [← EV.out]
  refine PC.out.mono ?_
  rintro e w1 ⟨x, rfl, hx, hs1, hg1⟩
  have S2 := Lib.hid hs1
  have M2 := Lib.hid (M1.out.grown hg1 (by omega))
  have G2 := Lib.hid (G1.out.grown hg1 (by omega) (fun k e => by injection e with e; omega))
  have hz1' := G2.out.size
  clear hs1 hg1 S1 M1 G1 FC PC EV
  go_wp2
  go_loopw [4, 5] (fun so sn wr => ∃ (k a : Nat) (L : List Rdd) (M : List Shp) (g c' : Nat), so = .slice (some ⟨g, 0, none⟩) L.length c' ∧ sn = .int .i64 (k : Int) ∧ Hid (L.length + k ≤ 4) ∧ Hid (a ≤ 1000 + 100 * L.length) ∧ Hid (∀ x ∈ L, x.ok) ∧ Hid (MS wr (w.heap.size + 1) g c' L M) ∧
    Hid (Src wr w.heap.size A n c a bs) ∧ Below w.heap.size w wr) (fun _ sn _ => (intOf sn).toNat)
  case atStart => exact ⟨x, 1, [], [], _, _, rfl, rfl, by unfold Hid; simp; omega, by unfold Hid; simp, fun x hx => by simp at hx, by have := M2.out; rw [hz] at this; exact this, S2, G2.out⟩
  case round =>
    clear S2 M2 G2 hx hz1'
    obtain ⟨k, a, L, M, g, c', rfl, rfl, HL, HAT, HO, HM, HS, hb⟩ := hrel
    have HB := Lib.hid hb
    have hsz := HS.out.size
    clear hb
    by_cases hk : 0 < k
    · obtain ⟨w1, ew1⟩ : ∃ w1, w1 = wr.alloc (.cells shNames 9) := ⟨_, rfl⟩
      have S1 := Lib.hid (show Src w1 w.heap.size A n c a bs by rw [ew1]; exact HS.out.alloc _)
      have M1 := Lib.hid (show MS w1 (w.heap.size + 1) g c' L M by rw [ew1]; exact HM.out.alloc _)
      have B1 := Lib.hid (show Below w.heap.size w w1 by rw [ew1]; exact HB.out.alloc HB.out.size _)
      have K1 : Blk w1 wr.heap.size 9 shNames := by rw [ew1]; exact Blk.new _ _ _
      have hal := HAT.out
      have hll := HL.out
      have TC := Lib.hid (text_any w.heap.size n c a wr.heap.size A bs shNames w1 (by omega) S1.out K1 rfl shNames_ok)
      have DC := Lib.hid (fun a' w' (ha : a' ≤ 1048576) (hs : Src w' w.heap.size A n c a' bs) => l07DrawOk_any w.heap.size n c a' A bs w' ha hs)
      have EW := Lib.hid (show wr.alloc (.cells #[.string ⟨#[97]⟩, .string ⟨#[99, 111, 97, 115, 116]⟩, .string ⟨#[99, 108, 111, 117, 100]⟩, .string ⟨#[122, 122]⟩] 9) = w1 from ew1.symm)
      have hzw1 : wr.heap.size + 1 = w1.heap.size := by rw [ew1]; simp
      clear ew1 K1
      go_wp2_with fail
      rw [EW.out]
      refine TC.out.mono ?_
      rintro e w2 ⟨s, rfl, hn1, hn2, hs2, hg2⟩
      have S2 := Lib.hid hs2
      have N1 := Lib.hid hn1
      have M2 := Lib.hid (M1.out.grown hg2 (by omega))
      have B2 := Lib.hid (B1.out.grown hg2 B1.out.size (fun k e => by injection e with e; omega))
      have hz2 := hg2.size
      clear hs2 hg2 hn1 S1 M1 B1 TC
      have D2 := Lib.hid (DC.out (a + 1) w2 (by omega) S2.out)
      clear DC
      go_wp2_with fail
      refine D2.out.mono ?_
      intro e w3 hh
      obtain ⟨W, H, cs, Ao, co, a', he, h1, h2, h3, h4, hl, ho, hs3, ha3, hg3⟩ := hh
      subst he
      have S3 := Lib.hid hs3
      have M3 := Lib.hid (M2.out.grown hg3 (by omega))
      have B3 := Lib.hid (B2.out.grown hg3 B2.out.size (fun k e => by injection e with e; omega))
      have O3 := Lib.hid ho
      have DX := Lib.hid (fun t (ht : t ∈ M) => (Dis.of_lt ho (Old.own (M2.out.cells t ht)) : Dis (.slice Ao cs.length co) t.sl))
      have hz3 := hg3.size
      have HX : Hid (Rdd.ok ⟨s, W, H, cs⟩) := ok_drawn N1.out h1 h2 h3 h4 hl
      clear hs3 hg3 ho hl D2 S2 M2 B2 h1 h2 h3 h4
      have MA := Lib.hid (M3.out.own.alloc (.cells #[.string s, .int .i64 (W : Int), .int .i64 (H : Int), .slice Ao cs.length co] 33))
      have hzA : w.heap.size + 1 ≤ (w3.alloc (.cells #[.string s, .int .i64 (W : Int), .int .i64 (H : Int), .slice Ao cs.length co] 33)).heap.size := by simp; omega
      have S3A := Lib.hid (S3.out.alloc (.cells #[.string s, .int .i64 (W : Int), .int .i64 (H : Int), .slice Ao cs.length co] 33))
      unfold fieldV
      go_wp2_with (first
        | (at_builtin; refine wpList_append_own_at (P := Try.prog) (w3.alloc (.cells #[.string s, .int .i64 (W : Int), .int .i64 (H : Int), .slice Ao cs.length co] 33)) rfl _ _ _ rfl (w.heap.size + 1) 33 i0 (.agg #[.string ⟨#[]⟩, .int .i64 0, .int .i64 0, .slice none 0 0]) 4 56 Try.underlying24 hi hi0 hi1 hi2 rfl (by omega) (.slice (some ⟨g, 0, none⟩) L.length c') L.length (shCells M) rfl MA.out ⟨w3.heap.size, 0, none⟩ 1 1 _ rfl rfl (shapeOne ⟨s, W, H, cs⟩ Ao co w3) (by simp [Value.oneCell']) (by unfold maxLen; omega) (by omega) hzA ?_; intro v4 w4 ho4 hg4 hn4 hd4)
        | fail)
      obtain ⟨g4, c4, rfl, _, _⟩ := ho4.form (by omega)
      have hlo : ∀ k, (Value.slice (some ⟨g, 0, none⟩) L.length c').ownBlock = some k → w.heap.size + 1 ≤ k := fun k e => (MA.out.lt k e).1
      have S4 := Lib.hid (S3A.out.grown' hg4 (fun k e => by have := hlo k e; omega))
      have B4 := Lib.hid ((B3.out.alloc B3.out.size (.cells #[.string s, .int .i64 (W : Int), .int .i64 (H : Int), .slice Ao cs.length co] 33)).grown hg4 (by omega) (fun k e => by have := hlo k e; omega))
      have hg4' := grown_trans' (World.grownBy_alloc w3 (.cells #[.string s, .int .i64 (W : Int), .int .i64 (H : Int), .slice Ao cs.length co] 33) _) hg4
      have M4 := Lib.hid (M3.out.snoc (x := ⟨s, W, H, cs⟩) O3.out (by omega) DX.out ho4 hg4')
      clear ho4 hg4 hg4' hlo M3 S3 S3A MA O3 DX
      go_wp2
      go_roundw
      case rel =>
        refine ⟨k - 1, a', L ++ [⟨s, W, H, cs⟩], M ++ [(⟨s, W, H, cs⟩ : Rdd).shp Ao co], g4, c4, by rw [List.length_append, List.length_singleton], by go_num, by unfold Hid; rw [List.length_append, List.length_singleton]; omega, by unfold Hid; rw [List.length_append, List.length_singleton]; omega, fun y hy => ?_, M4, S4, B4.out⟩
        rw [List.mem_append] at hy
        rcases hy with hy | hy
        · exact HO.out y hy
        · simp at hy; subst hy; exact HX.out
      case measure => simp [intOf]; omega
    · obtain rfl : k = 0 := by omega
      have hll := HL.out
      go_wp2
      go_ret
      exact ⟨L, M, g, c', rfl, by omega, HO.out, HM.out.base_ (by omega), HB.out⟩
end Go.Proofs.Ytbkacmklgkgamaa

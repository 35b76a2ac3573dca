/- Walk: the laws' copies of lists of shapes. Condition: at most 2^20 shapes of at most 2^20 cells. -/
import Derived.Test.YtlklpfjcnbkhlaaLp
namespace Go.Proofs.Ytlklpfjcnbkhlaa
open Go.RowKit

theorem shapeInfo : (Try.prog.info? 34).map (fun i => (i.zero, i.size, i.bytes)) = some (some (.agg #[.string ⟨#[]⟩, .int .i64 0, .int .i64 0, .slice none 0 0]), 4, 56) := by kernel_rfl
theorem own_blkS {w : World} {base g n size : Nat} {e : TypeId} {xs : List Value} (h : w.ownsRow base e size (.slice (some ⟨g, 0, none⟩) n n) n xs) : Blk w g e xs.toArray := by
  rcases h.2 with ⟨h', _⟩ | ⟨g', cap, cur, hv, hb, hh, hn, hx, hs, ht⟩
  · simp at h'
  · injection hv with h1 _ h3
    have h1' : g = g' := by simpa using h1
    subst h1'
    subst h3
    have : cur.toList = xs := by rw [← ht, List.take_of_length_le (by rw [Array.length_toList, hs]; exact Nat.le_refl _)]
    unfold Blk
    rw [hh, ← this]
/-- Each shape's cells lie in a row of the call's own. -/
def ShO (w : World) (base : Nat) (l : List Shp) : Prop := ∀ s ∈ l, w.ownsRow base 4 1 (.slice s.A s.cs.length s.c) s.cs.length (s.cs.map bv)
theorem ShO.below {w w' : World} {base : Nat} {l : List Shp} (h : ShO w base l) (hb : Below w.heap.size w w') : ShO w' base l := fun s hs => own_below (h s hs) hb
theorem shCells_snoc (l : List Shp) (s : Shp) : shCells (l ++ [s]) = shCells l ++ s.cells := by
  unfold shCells
  rw [List.flatMap_append]
  simp

set_option maxRecDepth 100000 in
set_option maxHeartbeats 1000000 in
theorem toShapeS_any (l : List Shp) (A : Option Addr) (n c : Nat) (w : World) (hn : n ≤ 1048576) (hf : ∀ s ∈ l, s.cs.length ≤ 1048576) (hA : ShR w w.heap.size A n l) :
    Calls Try.prog 8 #[.slice A n c] w fun e w' => ∃ A' m, e = .returned (.slice A' n n) ∧ Same m l ∧ ShR w' w'.heap.size A' n m ∧ Below w.heap.size w w' := by
  obtain ⟨i0, hi, hz0, hz1, hz2⟩ := info_parts shapeInfo
  have HA := Lib.hid hA
  have HF := Lib.hid hf
  clear hA hf
  go_enter Try.func8, Try.ntmps8
  go_wp2_with (at_make; refine wpList_make_full _ rfl _ _ _ rfl w.heap.size 34 i0 (.agg #[.string ⟨#[]⟩, .int .i64 0, .int .i64 0, .slice none 0 0]) 4 Try.underlying26 hi hz0 hz1 .i64 .i64 n n n rfl rfl rfl rfl (by rw [hz2]; omega) (by unfold maxLen; omega) (Nat.le_refl _) ?_; intro w1 ho1 hg1)
  have hml : (madeCells (Value.agg #[.string ⟨#[]⟩, .int .i64 0, .int .i64 0, .slice none 0 0]).cells (n * 4)).toList.length = n * 4 := ho1.1
  generalize (madeCells (Value.agg #[.string ⟨#[]⟩, .int .i64 0, .int .i64 0, .slice none 0 0]).cells (n * 4)).toList = zs at *
  have HK1 := Lib.hid (own_blkS ho1)
  have HB1 := Lib.hid (below_of_grown (B := w.heap.size) hg1 (Nat.le_refl _) (by simp))
  clear ho1 hg1
  go_loopw [4] (fun i wr => ∃ (j : Nat) (m : List Shp), j ≤ n ∧ i = .int .i64 j ∧ Hid (m.length = j) ∧ Hid (Same m (l.take j)) ∧ Hid (Blk wr w.heap.size 34 (shCells m ++ zs.drop (4 * j)).toArray) ∧ Hid (ShO wr (w.heap.size + 1) m) ∧ Below w.heap.size w wr) (fun i _ => n - (intOf i).toNat)
  case atStart => exact ⟨0, [], Nat.zero_le _, rfl, rfl, rfl, by simpa [shCells] using HK1, fun s hs => by simp at hs, HB1.out⟩
  case round =>
    clear HK1 HB1
    obtain ⟨j, m, hj, rfl, HM, HSM, HK, HO, hb⟩ := hrel
    have hsz := HK.out.lt
    by_cases hlt : j < n
    · obtain ⟨s, hs⟩ : ∃ s, l[j]? = some s := ⟨_, List.getElem?_eq_getElem (by rw [HA.out.1]; exact hlt)⟩
      obtain ⟨b, off, rfl, hbb, q0, q1, q2, q3⟩ := HA.out.get hs
      have c0 := (hb.cell (p := ⟨b, off + j * 4, none⟩) hbb).trans q0
      have c1 := (hb.cell (p := ⟨b, off + j * 4 + 1, none⟩) hbb).trans q1
      have c2 := (hb.cell (p := ⟨b, off + j * 4 + 2, none⟩) hbb).trans q2
      have c3 := (hb.cell (p := ⟨b, off + j * 4 + 3, none⟩) hbb).trans q3
      have f1 := HF.out s (List.mem_of_getElem? hs)
      have R1 := HA.out.2.2 s (List.mem_of_getElem? hs)
      have TC := Lib.hid (toShape_any s.nm s.wd s.hi s.A s.c s.cs.length s.cs wr f1 ((R1.below hb).more hb.size))
      have HSS := Lib.hid hs
      have HB := Lib.hid hb
      have hji : (j : Int) < (n : Int) := by omega
      have hmlen : (shCells m).length = 4 * j := by rw [shCells_len, HM.out]; omega
      have HML := Lib.hid hmlen
      clear hs q0 q1 q2 q3 f1 R1 hb hmlen
      go_wp2_with fail
      refine TC.out.mono ?_
      rintro e w1 ⟨A', rfl, ho1, hb1⟩
      have K1 := Lib.hid (HK.out.below hb1 hsz)
      have O1 := Lib.hid (HO.out.below hb1)
      have OS := Lib.hid (own_base (base' := w.heap.size + 1) ho1 (by omega))
      have B1 := Lib.hid (HB.out.trans (hb1.mono HB.out.size))
      have hcz : ((shCells m ++ zs.drop (4 * j)).toArray).size = n * 4 := by
        rw [List.size_toArray, List.length_append, HML.out, List.length_drop, hml]
        omega
      have HCE : Hid ((((shCells m ++ zs.drop (4 * j)).toArray).toList.take (j * 4) ++ [Value.string s.nm, .int .i64 s.wd, .int .i64 s.hi, .slice A' s.cs.length s.cs.length] ++ ((shCells m ++ zs.drop (4 * j)).toArray).toList.drop (j * 4 + 4)).toArray = (shCells (m ++ [⟨s.nm, s.wd, s.hi, A', s.cs.length, s.cs⟩]) ++ zs.drop (4 * (j + 1))).toArray) := by
        unfold Hid
        have h := HML.out
        rw [shCells_snoc]
        simp only [List.toList_toArray]
        rw [show j * 4 = 4 * j from by omega, List.take_left' h, ← h, List.drop_append, List.drop_eq_nil_of_le (by omega), List.nil_append, List.drop_drop, h]
        have : (shCells m).length + 4 - (shCells m).length = 4 := by omega
        rw [show 4 * j + (4 * j + 4 - 4 * j) = 4 * (j + 1) from by omega]
        rfl
      clear ho1 hb1
      go_wp2_with (first
        | (refine wpList_store_blk rfl _ _ _ rfl w.heap.size (j * 4) rfl _ rfl [.string s.nm, .int .i64 s.wd, .int .i64 s.hi, .slice A' s.cs.length s.cs.length] rfl 34 _ _ K1.out (by kernel_rfl) (by rw [hcz]; simp; omega) (by simp [Value.oneCell']) HCE.out ?_; intro w2 k2 g2)
        | fail)
      have hs2 := g2.size
      have B2 := Lib.hid (B1.out.grown g2 B1.out.size (fun k e => by injection e with e; omega))
      have K2 := Lib.hid k2
      have O2 : Hid (ShO w2 (w.heap.size + 1) (m ++ [⟨s.nm, s.wd, s.hi, A', s.cs.length, s.cs⟩])) := by
        intro t ht
        rw [List.mem_append] at ht
        rcases ht with ht | ht
        · exact own_grown (O1.out t ht) g2 (by omega)
        · simp at ht
          subst ht
          exact own_grown OS.out g2 (by omega)
      have S2 : Hid (Same (m ++ [⟨s.nm, s.wd, s.hi, A', s.cs.length, s.cs⟩]) (l.take (j + 1))) := by
        unfold Hid Same
        have h := HSM.out
        unfold Same at h
        rw [List.take_add_one, HSS.out, List.map_append, List.map_append, h]
        rfl
      clear k2 g2
      go_roundw
      case rel => exact ⟨j + 1, m ++ [⟨s.nm, s.wd, s.hi, A', s.cs.length, s.cs⟩], by omega, by go_num, by unfold Hid; rw [List.length_append, HM.out]; rfl, S2, K2, O2, B2.out⟩
      case measure => simp [intOf]; omega
    · obtain rfl : j = n := by omega
      have HB := Lib.hid hb
      clear hb
      go_wp2
      go_ret
      have hS := HSM.out
      rw [List.take_of_length_le (by rw [HA.out.1]; exact Nat.le_refl _)] at hS
      have hK := HK.out
      rw [List.drop_eq_nil_of_le (by rw [hml]; omega), List.append_nil] at hK
      refine ⟨_, m, rfl, hS, ⟨HM.out, ⟨by rw [shCells_len, HM.out], fun _ => ⟨w.heap.size, 0, rfl, hsz, fun i u hu => ?_⟩⟩, fun s hs => Rd.own (HO.out s hs)⟩, HB.out⟩
      rw [Nat.zero_add, hK.cell]
      simpa using hu
end Go.Proofs.Ytlklpfjcnbkhlaa

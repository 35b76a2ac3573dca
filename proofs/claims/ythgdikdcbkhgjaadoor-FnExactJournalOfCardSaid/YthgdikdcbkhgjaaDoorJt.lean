/- Walks: how large a list of texts is, and its copy, by the laws; a list of texts that came in. Condition: none beyond those that are said. -/
import Derived.Test.YthgdikdcbkhgjaaDoorJm
import Derived.Test.YthgdikdcbkhgjaaDoorApp
import Derived.Deep.Strs
import Derived.Lib.SmallJoins
namespace Go.Proofs.YthgdikdcbkhgjaaDoor
open Go.RowKit Go.WideShapes Go.ChangeShapes Go.Deep

set_option maxRecDepth 100000 in
set_option maxHeartbeats 1000000 in
theorem szStringS_any (A : Option Addr) (n c : Nat) (L : List ByteArray) (w : World) (hn : n ≤ maxLen) (hs : ∀ x ∈ L, x.size ≤ maxLen) (hA : Rd w w.heap.size 1 A n (L.map Value.string)) :
    Calls Tryd.prog 14 #[.slice A n c, .int .i64 1048576] w fun e w' => w' = w ∧ (e = .returned (.int .i64 (-1)) ∨ ∃ r : Nat, e = .returned (.int .i64 (r : Int)) ∧ n ≤ 1048576 ∧ ∀ x ∈ L, x.size ≤ 1048576) := by
  unfold maxLen at hn hs
  have hl : L.length = n := by have := hA.1; simpa using this
  have HL := Lib.hid hl
  have HA := Lib.hid hA
  have HS := Lib.hid hs
  clear hl hA hs
  by_cases hbig : 1048576 < n
  · go_enter Tryd.func14, Tryd.ntmps14
    go_wp2
    go_ret
    exact ⟨rfl, .inl rfl⟩
  have hsub : ((1048576 : Int) - (n : Int)) = ((1048576 - n : Nat) : Int) := by omega
  go_enter Tryd.func14, Tryd.ntmps14
  go_wp2
  go_loop [1, 5] (fun sl i => ∃ k left : Nat, k ≤ n ∧ i = .int .i64 (k : Int) ∧ sl = .int .i64 (left : Int) ∧ left ≤ 1048576 ∧ Hid (∀ x ∈ L.take k, x.size ≤ 1048576)) (fun _ i => n - (intOf i).toNat)
  case atStart => exact ⟨0, 1048576 - n, Nat.zero_le _, rfl, by go_num, by omega, fun x hx => by simp at hx⟩
  case round =>
    obtain ⟨k, left, hk, rfl, rfl, hle, HT⟩ := hrel
    by_cases hlt : k < n
    · obtain ⟨b, off, rfl, hbb, hc⟩ := HA.out.2 (by omega)
      obtain ⟨x, hx⟩ : ∃ x, L[k]? = some x := ⟨_, List.getElem?_eq_getElem (by rw [HL.out]; exact hlt)⟩
      have c1 : w.cell? ⟨b, off + k, none⟩ = some (.string x) := hc _ _ (by rw [List.getElem?_map, hx]; rfl)
      have hxs := HS.out x (List.mem_of_getElem? hx)
      have htk : L.take (k + 1) = L.take k ++ [x] := by rw [List.take_add_one, hx]; rfl
      have HTK := Lib.hid htk
      have hki : (k : Int) < (n : Int) := by omega
      clear hc hx htk
      by_cases hx2 : x.size ≤ left
      · go_wp2
        go_round
        case rel =>
          refine ⟨k + 1, left - x.size, by omega, by go_num, by go_num, by omega, ?_⟩
          unfold Hid
          rw [HTK.out]
          intro y hy
          rw [List.mem_append] at hy
          rcases hy with hy | hy
          · exact HT.out y hy
          · simp at hy; subst hy; omega
        case measure => simp [intOf]; omega
      · go_wp2
        go_ret
        exact ⟨rfl, .inl rfl⟩
    · obtain rfl : k = n := by omega
      have hT := HT.out
      rw [List.take_of_length_le (by rw [HL.out]; exact Nat.le_refl _)] at hT
      have HT2 := Lib.hid hT
      clear hT
      go_wp2
      go_ret
      exact ⟨rfl, .inr ⟨⟨left, rfl⟩, by omega, HT2.out⟩⟩
theorem strInfo' : (Tryd.prog.info? 9).map (fun i => (i.zero, i.size, i.bytes)) = some (some (.string ⟨#[]⟩), 1, 16) := by kernel_rfl
set_option maxRecDepth 100000 in
set_option maxHeartbeats 1000000 in
theorem toStringS_any (A : Option Addr) (n c : Nat) (xs : List ByteArray) (w : World) (hn : n ≤ 1048576) (hA : Rd w w.heap.size 1 A n (xs.map Value.string)) :
    Calls Tryd.prog 16 #[.slice A n c] w fun e w' => ∃ A', e = .returned (.slice A' n n) ∧ w'.ownsRow w.heap.size 9 1 (.slice A' n n) n (xs.map Value.string) ∧ Below w.heap.size w w' := by
  obtain ⟨i0, hi, hz0, hz1, hz2⟩ := info_parts strInfo'
  have hl : xs.length = n := by have := hA.len; simpa using this
  go_enter Tryd.func16, Tryd.ntmps16
  go_wp2_with (at_make; refine wpList_make_full _ rfl _ _ _ rfl w.heap.size 9 i0 (.string ⟨#[]⟩) 1 Tryd.underlying32 hi hz0 hz1 .i64 .i64 n n n rfl rfl rfl rfl (by rw [hz2]; omega) (by unfold maxLen; omega) (Nat.le_refl _) ?_; intro w1 ho1 hg1)
  have hml : (madeCells (Value.string ⟨#[]⟩).cells (n * 1)).toList.length = n := by have := ho1.1; omega
  generalize (madeCells (Value.string ⟨#[]⟩).cells (n * 1)).toList = zs at *
  go_loopw [4] (fun i wr => ∃ j : Nat, j ≤ n ∧ i = .int .i64 j ∧ wr.ownsRow w.heap.size 9 1 (.slice (some ⟨w.heap.size, 0, none⟩) n n) n (filled (fun j => Value.string (xs.getD j ⟨#[]⟩)) j zs) ∧ Below w.heap.size w wr) (fun i _ => n - (intOf i).toNat)
  case atStart => exact ⟨0, Nat.zero_le _, rfl, by simpa [filled_zero] using ho1, below_of_grown hg1 (Nat.le_refl _) (by simp)⟩
  case round =>
    obtain ⟨j, hj, rfl, ho, hb⟩ := hrel
    by_cases hlt : j < n
    · obtain ⟨b, off, rfl, hbb, hc⟩ := hA.2 (by omega)
      have hkl : j < xs.length := by omega
      have ex : (xs.map Value.string)[j]? = some (.string (xs.getD j ⟨#[]⟩)) := by rw [List.getElem?_map, List.getElem?_eq_getElem hkl, List.getD_eq_getElem?_getD, List.getElem?_eq_getElem hkl]; rfl
      have c1 : wr.cell? ⟨b, off + j, none⟩ = some (.string (xs.getD j ⟨#[]⟩)) := (hb.cell hbb).trans (hc _ _ ex)
      obtain ⟨ho2, hg2⟩ := ho.stored j (Value.string (xs.getD j ⟨#[]⟩))
      rw [filled_set _ (by omega) _ rfl] at ho2
      have f1 : j < (filled (fun j => Value.string (xs.getD j ⟨#[]⟩)) j zs).length := by rw [filled_len _ (by omega)]; omega
      have cA : wr.cell? ⟨w.heap.size, j, none⟩ = some (filled (fun j => Value.string (xs.getD j ⟨#[]⟩)) j zs)[j] := by rw [ho.cellAt _ (by omega), List.getElem?_eq_getElem f1]
      have fA : wr.frozen? ⟨w.heap.size, j, none⟩ = false := ho.frozenAt _
      clear hc ex
      generalize xs.getD j ⟨#[]⟩ = p at *
      have HO := Lib.hid ho2
      have HG := Lib.hid (hb.grown hg2 hb.size (by simp))
      clear ho2 hg2 ho
      go_wp2
      go_roundw
      case rel => exact ⟨j + 1, by omega, by go_num, HO.out, HG.out⟩
      case measure => simp [intOf]; omega
    · obtain rfl : j = n := by omega
      go_wp2
      go_ret
      refine ⟨_, rfl, ?_, hb⟩
      have e : filled (fun j => Value.string (xs.getD j ⟨#[]⟩)) j zs = xs.map Value.string := by
        have h := filled_all (fun j => Value.string (xs.getD j ⟨#[]⟩)) zs
        rw [hml] at h
        rw [h]
        refine List.ext_getElem (by simp; omega) (fun i h1 h2 => ?_)
        simp at h1 h2
        simp [List.getD_eq_getElem?_getD, List.getElem?_eq_getElem h2]
      rwa [e] at ho
theorem Rd.of_cells' {W : World} {a : Addr} {len : Nat} {f : Nat → Value} (h : ∀ i, i < len → W.cell? (a.add i) = some (f i)) : Rd W W.heap.size 1 (some a) len ((List.range len).map f) := by
  refine ⟨by simp, fun hn => ?_⟩
  have h0 := h 0 hn
  have hb := World.block_lt_of_cell? W _ h0
  obtain ⟨b, off, sp⟩ := a
  have e0 : (⟨b, off, sp⟩ : Addr).add 0 = ⟨b, off, sp⟩ := rfl
  rw [e0] at h0 hb
  have hs : sp = none := by
    cases sp with
    | none => rfl
    | some x =>
      exfalso
      unfold World.cell? at h0
      split at h0
      · simp at h0
      · cases h0
  subst hs
  refine ⟨b, off, rfl, hb, fun j u hu => ?_⟩
  have hj : j < len := by
    have := (List.getElem?_eq_some_iff.1 hu).1
    simpa using this
  rw [List.getElem?_map, List.getElem?_range hj] at hu
  rw [← Addr.add_mid, h j hj]
  exact hu
section
variable {H : Type} {enc : TypeId × Value → H} {W : World}
/-- A slice of texts that came in. -/
theorem open_texts {fuel : Nat} {v : Value} {x : DataW H × List MemPlace} (h : DataW.trod enc Tryd.prog W 0 (fun _ => true) true fuel 32 [v] = some x) :
    ∃ (A : Option Addr) (n c : Nat) (L : List ByteArray), v = .slice A n c ∧ n ≤ maxLen ∧ (∀ x ∈ L, x.size ≤ maxLen) ∧ Rd W W.heap.size 1 A n (L.map Value.string) := by
  rcases open_strs Tryd.underlying32 Tryd.underlying9 (by kernel_rfl) h with ⟨hc, _⟩ | ⟨a, len, cap, m, Sx, hc, _, hl, hm, hmm, _, hcell⟩
  · simp at hc
    subst hc
    exact ⟨none, 0, 0, [], rfl, Nat.zero_le _, fun x hx => by simp at hx, Rd.nil⟩
  · simp at hc
    subst hc
    have hlm : len ≤ m := by rw [hmm]; simp; omega
    refine ⟨some a, len, cap, (List.range len).map Sx, rfl, Nat.le_trans hl hm, fun x hx => ?_, ?_⟩
    · obtain ⟨i, hi, rfl⟩ := List.mem_map.1 hx
      exact (hcell i (by have := List.mem_range.1 hi; omega)).2
    · rw [List.map_map]
      exact Rd.of_cells' fun i hi => (hcell i (by omega)).1
end
end Go.Proofs.YthgdikdcbkhgjaaDoor

/- Walks: how many cells are full, and how long their edge is, by the program. Conditions: the field is valid. -/
import Derived.Test.YtknonmfffcjonaaKc
import Derived.Test.YtknonmfffcjonaaVal
import Derived.Test.YtknonmfffcjonaaSd
namespace Go.Proofs.Ytknonmfffcjonaa
open Go.RowKit

theorem bv_get {cs : List Bool} {k : Nat} (h : k < cs.length) : (cs.map bv)[k]? = some (.bool (cs.getD k false)) := by
  rw [List.getElem?_map, List.getD_eq_getElem?_getD, List.getElem?_eq_getElem h]
  rfl
theorem fullN_le (cs : List Bool) : ∀ n, fullN cs n ≤ n
  | 0 => Nat.le_refl _
  | n + 1 => by
    have := fullN_le cs n
    show fullN cs n + b1 (cs.getD n false) ≤ n + 1
    unfold b1
    split <;> omega
set_option maxRecDepth 100000 in
set_option maxHeartbeats 1000000 in
theorem CountCells_any (W H N : Nat) (A : Option Addr) (c : Nat) (cs : List Bool) (w : World) (hW : 1 ≤ W) (hW' : W ≤ 16) (hH : 1 ≤ H) (hH' : H ≤ 16) (hl : cs.length = N) (hP : W * H = N) (h : validB W H N = true)
    (hA : Rd w w.heap.size 1 A N (cs.map bv)) :
    Calls Try.prog 12 #[fieldV W H A N c] w fun e w' => e = .returned (.tuple #[.int .i64 ((fullN cs N : Nat) : Int), .bool true]) ∧ Below w.heap.size w w' := by
  have hN : N ≤ 256 := by have := Nat.mul_le_mul hW' hH'; omega
  obtain ⟨v, ev⟩ : ∃ v, v = w.alloc (.cells #[.int .i64 (W : Int), .int .i64 (H : Int), .slice A N c] 26) := ⟨_, rfl⟩
  have K0 : Blk v w.heap.size 26 #[.int .i64 (W : Int), .int .i64 (H : Int), .slice A N c] := by rw [ev]; exact Blk.new _ _ _
  have V0 : Hid (Below w.heap.size w v) := by rw [ev]; exact (Below.refl _ _).alloc (Nat.le_refl _) _
  have VF := ValidField_any (W : Int) (H : Int) A N c v
  rw [h] at VF
  have VFH := Lib.hid VF
  have b0 : v.cell? ⟨w.heap.size, 0, none⟩ = some (.int .i64 (W : Int)) := K0.cell 0
  have b1' : v.cell? ⟨w.heap.size, 1, none⟩ = some (.int .i64 (H : Int)) := K0.cell 1
  have b2 : v.cell? ⟨w.heap.size, 2, none⟩ = some (.slice A N c) := K0.cell 2
  have KV := Lib.hid K0
  have HA := Lib.hid hA
  have HL := Lib.hid hl
  have EV := Lib.hid ev
  rw [ev] at b0 b1' b2
  unfold fieldV at VFH
  unfold fieldV
  clear VF K0 hA hl ev h hP
  go_enter Try.func12, Try.ntmps12
  go_wp2_with fail
  rw [← EV.out]
  refine VFH.out.mono ?_
  rintro e w1 ⟨rfl, hb⟩
  have d2 : w1.cell? ⟨w.heap.size, 2, none⟩ = some (.slice A N c) := (KV.out.below hb KV.out.lt).cell 2
  have V1 := Lib.hid (V0.out.trans (hb.mono V0.out.size))
  clear hb b0 b1' b2
  go_wp2
  go_loopw [4, 13] (fun sn si wr => ∃ k : Nat, k ≤ N ∧ si = .int .i64 (k : Int) ∧ sn = .int .i64 ((fullN cs k : Nat) : Int) ∧ Below w.heap.size w wr) (fun _ si _ => N - (intOf si).toNat)
  case atStart => exact ⟨0, Nat.zero_le _, rfl, rfl, V1.out⟩
  case round =>
    obtain ⟨k, hk, rfl, rfl, hb⟩ := hrel
    have HB := Lib.hid hb
    by_cases hlt : k < N
    · obtain ⟨b, off, rfl, hbb, hc⟩ := HA.out.2 (by omega)
      have e0 : wr.cell? ⟨b, off + k, none⟩ = some (.bool (cs.getD k false)) := (hb.cell hbb).trans (hc _ _ (bv_get (by rw [HL.out]; exact hlt)))
      have hle := fullN_le cs k
      have HS : Hid (fullN cs (k + 1) = fullN cs k + b1 (cs.getD k false)) := rfl
      have hki : (k : Int) < (N : Int) := by omega
      obtain ⟨q, hq⟩ : ∃ q, cs.getD k false = q := ⟨_, rfl⟩
      obtain ⟨f, hf⟩ : ∃ f, fullN cs k = f := ⟨_, rfl⟩
      rw [hq] at e0 HS
      rw [hf] at HS hle ⊢
      clear hc hb hq hf d2
      cases q
      · go_wp2
        go_roundw
        case rel => exact ⟨k + 1, by omega, by go_num, by rw [HS.out]; rfl, HB.out⟩
        case measure => simp [intOf]; omega
      · go_wp2
        go_roundw
        case rel => exact ⟨k + 1, by omega, by go_num, by rw [HS.out]; unfold b1; go_num, HB.out⟩
        case measure => simp [intOf]; omega
    · obtain rfl : k = N := by omega
      clear hb d2
      go_wp2
      go_ret2
      exact ⟨rfl, HB.out⟩
theorem nearN_le (cs : List Bool) (W H : Nat) : ∀ n, nearN cs W H n ≤ 4 * fullN cs n
  | 0 => Nat.le_refl _
  | n + 1 => by
    have ih := nearN_le cs W H n
    show nearN cs W H n + (if cs.getD n false then (nbs W H n).countP (fun b => cs.getD b false) else 0) ≤ 4 * (fullN cs n + b1 (cs.getD n false))
    have hl : (nbs W H n).countP (fun b => cs.getD b false) ≤ 4 := by
      refine Nat.le_trans List.countP_le_length ?_
      unfold nbs nb1 nb2 nb3 nb4
      simp only [List.length_append]
      split <;> split <;> split <;> split <;> simp
    unfold b1
    split <;> omega
set_option maxRecDepth 100000 in
set_option maxHeartbeats 2000000 in
theorem EdgeOfField_any (W H N : Nat) (A : Option Addr) (c : Nat) (cs : List Bool) (w : World) (hW : 1 ≤ W) (hW' : W ≤ 16) (hH : 1 ≤ H) (hH' : H ≤ 16) (hl : cs.length = N) (hP : W * H = N) (h : validB W H N = true)
    (hA : Rd w w.heap.size 1 A N (cs.map bv)) :
    Calls Try.prog 11 #[fieldV W H A N c] w fun e w' => e = .returned (.tuple #[.int .i64 (4 * ((fullN cs N : Nat) : Int) - ((nearN cs W H N : Nat) : Int)), .bool true]) ∧ Below w.heap.size w w' := by
  have hN : N ≤ 256 := by have := Nat.mul_le_mul hW' hH'; omega
  obtain ⟨v, ev⟩ : ∃ v, v = w.alloc (.cells #[.int .i64 (W : Int), .int .i64 (H : Int), .slice A N c] 26) := ⟨_, rfl⟩
  have K0 : Blk v w.heap.size 26 #[.int .i64 (W : Int), .int .i64 (H : Int), .slice A N c] := by rw [ev]; exact Blk.new _ _ _
  have V0 : Hid (Below w.heap.size w v) := by rw [ev]; exact (Below.refl _ _).alloc (Nat.le_refl _) _
  have VF := ValidField_any (W : Int) (H : Int) A N c v
  rw [h] at VF
  have VFH := Lib.hid VF
  have b0 : v.cell? ⟨w.heap.size, 0, none⟩ = some (.int .i64 (W : Int)) := K0.cell 0
  have b1' : v.cell? ⟨w.heap.size, 1, none⟩ = some (.int .i64 (H : Int)) := K0.cell 1
  have b2 : v.cell? ⟨w.heap.size, 2, none⟩ = some (.slice A N c) := K0.cell 2
  have KV := Lib.hid K0
  have HA := Lib.hid hA
  have HL := Lib.hid hl
  have EV := Lib.hid ev
  rw [ev] at b0 b1' b2
  unfold fieldV at VFH
  unfold fieldV
  have HP := Lib.hid hP
  clear VF K0 hA hl ev h hP
  go_enter Try.func11, Try.ntmps11
  go_wp2_with fail
  rw [← EV.out]
  refine VFH.out.mono ?_
  rintro e w1 ⟨rfl, hb⟩
  have d2 : w1.cell? ⟨w.heap.size, 2, none⟩ = some (.slice A N c) := (KV.out.below hb KV.out.lt).cell 2
  have K1 := Lib.hid (KV.out.below hb KV.out.lt)
  have V1 := Lib.hid (V0.out.trans (hb.mono V0.out.size))
  clear hb b0 b1' b2
  go_wp2
  go_loopw [4, 15] (fun sn si wr => ∃ k : Nat, k ≤ N ∧ si = .int .i64 (k : Int) ∧ sn = .int .i64 (4 * ((fullN cs k : Nat) : Int) - ((nearN cs W H k : Nat) : Int)) ∧ Hid (Blk wr w.heap.size 26 #[.int .i64 (W : Int), .int .i64 (H : Int), .slice A N c]) ∧ Below w.heap.size w wr) (fun _ si _ => N - (intOf si).toNat)
  case atStart => exact ⟨0, Nat.zero_le _, rfl, rfl, K1.out, V1.out⟩
  case round =>
    clear K1 V1 d2
    obtain ⟨k, hk, rfl, rfl, K, hb⟩ := hrel
    have HB := Lib.hid hb
    have hsz := hb.size
    by_cases hlt : k < N
    · obtain ⟨b, off, rfl, hbb, hc⟩ := HA.out.2 (by omega)
      have e0 : wr.cell? ⟨b, off + k, none⟩ = some (.bool (cs.getD k false)) := (hb.cell hbb).trans (hc _ _ (bv_get (by rw [HL.out]; exact hlt)))
      have CC : Hid (∀ w', Below w.heap.size w w' → ∀ x, x < N → w'.cell? ⟨b, off + x, none⟩ = some (.bool (cs.getD x false))) := fun w' h x hx => (h.cell hbb).trans (hc _ _ (bv_get (by rw [HL.out]; exact hx)))
      have hle := fullN_le cs k
      have hle2 := nearN_le cs W H k
      have HS : Hid (fullN cs (k + 1) = fullN cs k + b1 (cs.getD k false)) := rfl
      have HS2 : Hid (nearN cs W H (k + 1) = nearN cs W H k + (if cs.getD k false then (nbs W H k).countP (fun b => cs.getD b false) else 0)) := rfl
      have hki : (k : Int) < (N : Int) := by omega
      have SC := Lib.hid (fun wz => sides_any W H k (.slice (some ⟨b, off, none⟩) N c) wz rfl hW hW' hH hH' (by rw [HP.out]; exact hlt))
      have d0 : wr.cell? ⟨w.heap.size, 0, none⟩ = some (.int .i64 (W : Int)) := K.out.cell 0
      have d1 : wr.cell? ⟨w.heap.size, 1, none⟩ = some (.int .i64 (H : Int)) := K.out.cell 1
      have d2 : wr.cell? ⟨w.heap.size, 2, none⟩ = some (.slice (some ⟨b, off, none⟩) N c) := K.out.cell 2
      have hnl : (nbs W H k).length ≤ 4 := by
        unfold nbs nb1 nb2 nb3 nb4
        simp only [List.length_append]
        split <;> split <;> split <;> split <;> simp
      have NL : Hid (∀ j q, (nbs W H k)[j]? = some q → q < N) := fun j q h => by
        have := nbs_lt (W := W) (H := H) (by rw [HP.out]; exact hlt) (List.mem_of_getElem? h)
        rwa [HP.out] at this
      obtain ⟨q, hq⟩ : ∃ q, cs.getD k false = q := ⟨_, rfl⟩
      obtain ⟨f, hf⟩ : ∃ f, fullN cs k = f := ⟨_, rfl⟩
      obtain ⟨nr, hnr⟩ : ∃ nr, nearN cs W H k = nr := ⟨_, rfl⟩
      rw [hq] at e0 HS HS2
      rw [hf] at HS hle hle2 ⊢
      rw [hnr] at HS2 hle2 ⊢
      clear hc hb hq hf hnr
      cases q
      · go_wp2
        go_roundw
        case rel => exact ⟨k + 1, by omega, by go_num, by rw [HS.out, HS2.out]; rfl, K, HB.out⟩
        case measure => simp [intOf]; omega
      · obtain ⟨ks, hks⟩ : ∃ ks, nbs W H k = ks := ⟨_, rfl⟩
        rw [hks] at SC HS2 hnl NL
        have HS2' : Hid (nearN cs W H (k + 1) = nr + ks.countP (fun b => cs.getD b false)) := HS2.out
        clear hks HS2
        go_wp2_with fail
        refine (SC.out _).mono ?_
        rintro e w2 ⟨A2, n2, c2, rfl, ho2, hb2⟩
        have K2 := Lib.hid (K.out.below hb2 K.out.lt)
        have B2 := Lib.hid (HB.out.trans (hb2.mono hsz))
        have R2 := Lib.hid (Rd.own ho2)
        have hn2 : ks.length = n2 := by have := ho2.1; simpa using this
        have HN2 := Lib.hid hn2
        have hn24 : n2 ≤ 4 := by omega
        have hz2 := hb2.size
        clear ho2 hb2 d0 d1 d2 e0 hn2
        go_wp2
        go_loopw [4, 28] (fun sn si wr => ∃ j : Nat, j ≤ n2 ∧ si = .int .i64 (j : Int) ∧ sn = .int .i64 (4 * (f : Int) - (nr : Int) + 4 - (((ks.take j).countP (fun b => cs.getD b false) : Nat) : Int)) ∧ wr = w2) (fun _ si _ => n2 - (intOf si).toNat)
        case atStart => exact ⟨0, Nat.zero_le _, rfl, by simp, rfl⟩
        case round =>
          obtain ⟨j, hj, rfl, rfl, hwr⟩ := hrel
          subst hwr
          have hcj : (ks.take j).countP (fun b => cs.getD b false) ≤ 4 := by
            refine Nat.le_trans List.countP_le_length ?_
            rw [List.length_take]
            omega
          by_cases hjn : j < n2
          · obtain ⟨b2, off2, rfl, hbb2, hc2⟩ := R2.out.2 (by omega)
            obtain ⟨q, hq⟩ : ∃ q, ks[j]? = some q := ⟨_, List.getElem?_eq_getElem (by rw [HN2.out]; exact hjn)⟩
            have hqN := NL.out j q hq
            have x0 : wr.cell? ⟨b2, off2 + j, none⟩ = some (.int .i64 (q : Int)) := hc2 _ _ (by rw [List.getElem?_map, hq]; rfl)
            have x1 : wr.cell? ⟨b, off + q, none⟩ = some (.bool (cs.getD q false)) := CC.out wr B2.out q hqN
            have x2 : wr.cell? ⟨w.heap.size, 2, none⟩ = some (.slice (some ⟨b, off, none⟩) N c) := K2.out.cell 2
            have HT : Hid ((ks.take (j + 1)).countP (fun b => cs.getD b false) = (ks.take j).countP (fun b => cs.getD b false) + b1 (cs.getD q false)) := by
              unfold Hid b1
              rw [List.take_add_one, hq, List.countP_append]
              simp [List.countP_cons]
            have hji : (j : Int) < (n2 : Int) := by omega
            have hqi : (q : Int) < (N : Int) := by omega
            obtain ⟨t, ht⟩ : ∃ t, (ks.take j).countP (fun b => cs.getD b false) = t := ⟨_, rfl⟩
            obtain ⟨z, hz⟩ : ∃ z, cs.getD q false = z := ⟨_, rfl⟩
            rw [ht] at HT hcj ⊢
            rw [hz] at HT x1
            clear hc2 hq ht hz
            cases z
            · go_wp2
              go_roundw
              case rel => exact ⟨j + 1, by omega, by go_num, by rw [HT.out]; rfl, trivial⟩
              case measure => simp [intOf]; omega
            · go_wp2
              go_roundw
              case rel => exact ⟨j + 1, by omega, by go_num, by rw [HT.out]; unfold b1; go_num, trivial⟩
              case measure => simp [intOf]; omega
          · obtain rfl : j = n2 := by omega
            have HT : Hid (ks.take j = ks) := List.take_of_length_le (by rw [HN2.out]; exact Nat.le_refl _)
            rw [HT.out] at hcj ⊢
            obtain ⟨t, ht⟩ : ∃ t, ks.countP (fun b => cs.getD b false) = t := ⟨_, rfl⟩
            rw [ht] at hcj HS2' ⊢
            clear ht
            go_wp2
            go_roundw
            case rel => exact ⟨k + 1, by omega, by go_num, by rw [HS.out, HS2'.out]; unfold b1; go_num, K2.out, B2.out⟩
            case measure => simp [intOf]; omega
    · obtain rfl : k = N := by omega
      clear hb
      go_wp2
      go_ret2
      exact ⟨rfl, HB.out⟩
end Go.Proofs.Ytknonmfffcjonaa

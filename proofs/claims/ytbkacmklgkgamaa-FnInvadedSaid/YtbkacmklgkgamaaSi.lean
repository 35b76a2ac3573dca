/- Walk: the program's groups that go from above to below. Conditions: the field is valid. -/
import Derived.Test.YtbkacmklgkgamaaGi
import Derived.Test.YtbkacmklgkgamaaSs
import Derived.Test.YtbkacmklgkgamaaIx
namespace Go.Proofs.Ytbkacmklgkgamaa
open Go.RowKit

theorem own_get {w : World} {base g n c : Nat} {e : TypeId} {xs : List Value} (h : w.ownsRow base e 1 (.slice (some ⟨g, 0, none⟩) n c) n xs) : ∀ j u, xs[j]? = some u → w.cell? ⟨g, j, none⟩ = some u := by
  intro j u hu
  have h1 := (List.getElem?_eq_some_iff.1 hu).1
  have h2 := h.1
  rw [h.cellAt _ (by omega)]
  exact hu
theorem Rd.part {w : World} {b n m d B : Nat} {ts : List Int} (hl : ts.length = n) (hd : d + m ≤ n) (hb : b < B) (hc : ∀ j u, (ts.map iv)[j]? = some u → w.cell? ⟨b, j, none⟩ = some u) :
    Rd w B 1 (some ⟨b, d, none⟩) m (((ts.drop d).take m).map iv) := by
  refine ⟨by simp; omega, fun _ => ⟨b, d, rfl, hb, fun j u hj => ?_⟩⟩
  rw [List.getElem?_map] at hj
  have hjm : j < m := by
    by_cases h : j < m
    · exact h
    · rw [List.getElem?_take_eq_none (by omega)] at hj; simp at hj
  rw [List.getElem?_take_of_lt hjm, List.getElem?_drop] at hj
  exact hc (d + j) u (by rw [List.getElem?_map]; exact hj)

set_option maxRecDepth 100000 in
set_option maxHeartbeats 4000000 in
theorem spans_any (W H N : Nat) (A : Option Addr) (c : Nat) (cs : List Bool) (w : World) (hW : 1 ≤ W) (hW' : W ≤ 16) (hH : 1 ≤ H) (hH' : H ≤ 16) (hl : cs.length = N) (hP : W * H = N)
    (hA : Rd w w.heap.size 1 A N (cs.map bv)) :
    Calls Try.prog 44 #[.agg #[.int .i64 W, .int .i64 H, .slice A N c]] w fun e w' => ∃ (ts sz : List Int) (A' : Option Addr) (c' : Nat), e = .returned (.slice A' (spansTo ts W sz.length).length c') ∧
      Hid (Grp cs N (nbs W H) N ts sz) ∧ w'.ownsRow w.heap.size 2 1 (.slice A' (spansTo ts W sz.length).length c') (spansTo ts W sz.length).length ((spansTo ts W sz.length).map iv) ∧ Below w.heap.size w w' := by
  obtain ⟨g, eg⟩ : ∃ g, g = w.heap.size := ⟨_, rfl⟩
  obtain ⟨v, ev⟩ : ∃ v, v = w.alloc (.cells #[.int .i64 W, .int .i64 H, .slice A N c] 31) := ⟨_, rfl⟩
  have hbk : Blk v g 31 #[.int .i64 W, .int .i64 H, .slice A N c] := by rw [ev, eg]; exact Blk.new w _ _
  have hgl := hbk.lt
  have HW : Hid (Below w.heap.size w v) := by rw [ev]; exact (Below.refl _ _).alloc (Nat.le_refl _) _
  have hvz : v.heap.size = w.heap.size + 1 := by rw [ev]; simp
  have hAv : Rd v v.heap.size 1 A N (cs.map bv) := (hA.below HW.out).more (by omega)
  have k0 : ∀ w', Below v.heap.size v w' → w'.cell? ⟨g, 0, none⟩ = some (.int .i64 W) := fun w' h => (h.cell hgl).trans (hbk.cell 0)
  have K0 := Lib.hid k0
  have GC := Lib.hid (groups_any W H N A c cs v hW hW' hH hH' hl hP hAv)
  have hN256 : N ≤ 256 := by have := Nat.mul_le_mul hW' hH'; omega
  have hWN : W ≤ N := by rw [← hP]; exact Nat.le_mul_of_pos_right W hH
  have d0 : v.cell? ⟨g, 0, none⟩ = some (.int .i64 W) := hbk.cell 0
  have d1 : v.cell? ⟨g, 1, none⟩ = some (.int .i64 H) := hbk.cell 1
  have d2 : v.cell? ⟨g, 2, none⟩ = some (.slice A N c) := hbk.cell 2
  have EV := Lib.hid ev
  have EG := Lib.hid eg
  have HVZ := Lib.hid hvz
  rw [eg, ev] at d0 d1 d2
  clear ev eg hbk hA hAv hl hP hvz k0
  go_enter Try.func44, Try.ntmps44
  go_wp2_with fail
  rw [← EV.out]
  refine GC.out.mono ?_
  rintro e w1 ⟨ts, ss, Ao, As, co, cz, rfl, G, ho, hos, hds, hb⟩
  have hsz := hb.size
  have I := Lib.hid G.out.inv
  have hss : ss.length ≤ N := I.out.num
  obtain ⟨gt, co', hvt, _, hgt'⟩ := ho.form (by omega)
  obtain ⟨rfl, rfl⟩ : Ao = some ⟨gt, 0, none⟩ ∧ co = co' := by injection hvt with h1 _ h3; exact ⟨h1, h3⟩
  have hco := own_cap ho
  have d5 := K0.out w1 hb
  rw [EG.out] at d5
  have HO := Lib.hid ho
  have HB := Lib.hid hb
  clear ho hos hds hb GC d0 d1 d2 hvt
  obtain ⟨R, hRN⟩ : ∃ R : Nat, R + W = N := ⟨N - W, by omega⟩
  have hRI : (N : Int) - (W : Int) = (R : Int) := by omega
  go_wp2
  go_region
  have hNR : N - R = W := by omega
  rw [hNR]
  have b1 : Hid (Blk (w1.drew.alloc (.cells #[] 2)) w1.drew.heap.size 2 #[]) := Blk.new _ _ _
  have HO1 : Hid (w1.drew.ownsRow v.heap.size 2 1 (.slice (some ⟨gt, 0, none⟩) N co) N (ts.map iv)) := HO.out
  have HB1 : Hid (Below v.heap.size v w1.drew) := HB.out.drew
  have hsz1 : v.heap.size ≤ w1.drew.heap.size := hsz
  generalize w1.drew = w2 at *
  clear HO HB d5 hNR
  go_wp2
  go_loopw [7, 28] (fun so si wr => ∃ (k : Nat) (Ar : Option Addr) (cr : Nat), k ≤ ss.length ∧ si = .int .i64 k ∧ so = .slice Ar (spansTo ts W k).length cr ∧
      wr.ownsRow v.heap.size 2 1 (.slice (some ⟨gt, 0, none⟩) N co) N (ts.map iv) ∧ wr.ownsRow v.heap.size 2 1 (.slice Ar (spansTo ts W k).length cr) (spansTo ts W k).length ((spansTo ts W k).map iv) ∧ Dis (.slice (some ⟨gt, 0, none⟩) N co) (.slice Ar (spansTo ts W k).length cr) ∧
      Below v.heap.size v wr) (fun _ i _ => ss.length - (intOf i).toNat)
  case atStart =>
    refine ⟨0, _, 0, Nat.zero_le _, rfl, rfl, HO1.out.alloc _, b1.out.own (n := 0) (size := 1) hsz1 rfl (by unfold maxLen; omega), fun j h h' => ?_, HB1.out.alloc hsz1 _⟩
    have := (HO1.out.lt j h).2
    simp [Value.ownBlock] at h'
    omega
  case round =>
    clear HO1 HB1 b1 hsz1
    obtain ⟨k, Ar, cr, hk, rfl, rfl, ho, hr, hd, hb⟩ := hrel
    have hsz := hb.size
    have hle := spansTo_le ts W k
    by_cases hlt : k < ss.length
    · have C1 := Lib.hid (containsInt_any (some ⟨gt, 0, none⟩) W co wr.heap.size k (ts.take W) wr (by unfold maxLen; omega)
        (by simpa using Rd.part (m := W) (d := 0) I.out.len (by omega) (ho.lt gt rfl).2 (own_get ho)))
      have C2 := Lib.hid (containsInt_any (some ⟨gt, R, none⟩) W (co - R) wr.heap.size k (ts.drop R) wr (by unfold maxLen; omega)
        (by
          have h := Rd.part (m := W) (d := R) I.out.len (by omega) (ho.lt gt rfl).2 (own_get ho)
          rw [List.take_of_length_le (by rw [List.length_drop, I.out.len]; omega)] at h
          exact h))
      obtain ⟨p, hp⟩ : ∃ p, decide ((k : Int) ∈ ts.take W) = p := ⟨_, rfl⟩
      obtain ⟨q, hq⟩ : ∃ q, decide ((k : Int) ∈ ts.drop R) = q := ⟨_, rfl⟩
      have SP : Hid (spanned ts W k = (p && q)) := by
        unfold spanned Hid
        rw [hp, ← hq, show ts.length - W = R from by rw [I.out.len]; omega]
      rw [hp] at C1
      rw [hq] at C2
      have HO' := Lib.hid ho
      have HR' := Lib.hid hr
      have HD := Lib.hid hd
      have HB' := Lib.hid hb
      clear ho hr hd hb hp hq
      cases hpq : (p && q)
      · have E1 : Hid (spansTo ts W (k + 1) = spansTo ts W k) := spansTo_no (SP.out.trans hpq)
        cases p <;> cases q <;> first
          | (simp at hpq; done)
          | (clear hpq
             go_wp2_with (first
               | (go_at_call 59; refine C1.out.mono ?_; rintro e w5 ⟨rfl, h5⟩; obtain rfl := h5.symm)
               | (go_at_call 59; refine C2.out.mono ?_; rintro e w5 ⟨rfl, h5⟩; obtain rfl := h5.symm))
             go_roundw
             case rel => exact ⟨k + 1, Ar, cr, by omega, by go_num, by rw [E1.out], HO'.out, by rw [E1.out]; exact HR'.out, by rw [E1.out]; exact HD.out, HB'.out⟩
             case measure => simp [intOf]; omega)
      · have E1 : Hid (spansTo ts W (k + 1) = spansTo ts W k ++ [(k : Int)]) := spansTo_yes (SP.out.trans hpq)
        obtain ⟨rfl, rfl⟩ : p = true ∧ q = true := by simpa using hpq
        clear hpq
        go_wp2_with (first
          | (go_at_call 59; refine C1.out.mono ?_; rintro e w5 ⟨rfl, h5⟩; obtain rfl := h5.symm)
          | (go_at_call 59; refine C2.out.mono ?_; rintro e w5 ⟨rfl, h5⟩; obtain rfl := h5.symm)
          | (at_builtin; refine wpList_append_one (W := wr) rfl _ _ _ rfl v.heap.size 2 (.int .i64 0) 8 Try.underlying47 intInfo rfl Ar (spansTo ts W k).length cr _ rfl HR'.out (.int .i64 (k : Int)) _ rfl (by simp) rfl (by unfold maxLen; omega) (by omega) hsz ?_; intro A3 c3 w3 ho3 hg3 hd3))
        go_roundw
        case rel =>
          refine ⟨k + 1, A3, c3, by omega, by go_num, by rw [E1.out]; simp, own_kept HO'.out hg3 HD.out, ?_, ?_, HB'.out.grown hg3 hsz (fun j e => (HR'.out.lt j e).1)⟩
          · rw [E1.out, List.length_append, List.map_append]; exact ho3
          · rw [E1.out, List.length_append]; exact (hd3 _ (Old.own HO'.out) HD.out.symm).symm
        case measure => simp [intOf]; omega
    · obtain rfl : k = ss.length := by omega
      have HR := Lib.hid hr
      clear hr ho hd
      go_wp2
      go_ret
      exact ⟨ts, ss, Ar, cr, rfl, G, own_base HR.out (by rw [HVZ.out]; omega), HW.out.trans (hb.mono (by rw [HVZ.out]; omega))⟩
end Go.Proofs.Ytbkacmklgkgamaa

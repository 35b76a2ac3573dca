/- Walk: the reference's groups that go from above to below. Conditions: the field is valid. -/
import Derived.Test.YtbkacmklgkgamaaGs
namespace Go.Proofs.Ytbkacmklgkgamaa
open Go.RowKit

/-- Whether group n is in the first row and in the last one. -/
def spanned (ts : List Int) (W n : Nat) : Bool := decide ((n : Int) ∈ ts.take W) && decide ((n : Int) ∈ ts.drop (ts.length - W))
def spansTo (ts : List Int) (W m : Nat) : List Int := ((List.range m).filter (spanned ts W)).map fun (n : Nat) => (n : Int)
theorem spansTo_zero (ts : List Int) (W : Nat) : spansTo ts W 0 = [] := rfl
theorem spansTo_yes {ts : List Int} {W m : Nat} (h : spanned ts W m = true) : spansTo ts W (m + 1) = spansTo ts W m ++ [(m : Int)] := by
  unfold spansTo; rw [List.range_succ, List.filter_append, List.map_append]; simp [h]
theorem spansTo_no {ts : List Int} {W m : Nat} (h : spanned ts W m = false) : spansTo ts W (m + 1) = spansTo ts W m := by
  unfold spansTo; rw [List.range_succ, List.filter_append, List.map_append]; simp [h]
theorem spansTo_le (ts : List Int) (W m : Nat) : (spansTo ts W m).length ≤ m := by
  unfold spansTo; rw [List.length_map]
  have := List.length_filter_le (spanned ts W) (List.range m)
  simpa using this
theorem decide_take_succ {l : List Int} {k : Nat} {n y : Int} (h : l[k]? = some y) (b : Bool) (hb : b = decide (n ∈ l.take k)) : (b || (y == n)) = decide (n ∈ l.take (k + 1)) := by
  subst hb
  rw [List.take_add_one, h]
  rw [Bool.eq_iff_iff]
  simp only [Bool.or_eq_true, decide_eq_true_eq, beq_iff_eq, List.mem_append, Option.toList_some, List.mem_singleton]
  exact or_congr Iff.rfl eq_comm

set_option maxRecDepth 100000 in
set_option maxHeartbeats 4000000 in
theorem l07Spans_any (W H N : Nat) (A : Option Addr) (c g : Nat) (cs : List Bool) (w : World) (hW : 1 ≤ W) (hW' : W ≤ 16) (hH : 1 ≤ H) (hH' : H ≤ 16) (hl : cs.length = N) (hP : W * H = N)
    (hb : Blk w g 31 #[.int .i64 W, .int .i64 H, .slice A N c]) (hA : Rd w w.heap.size 1 A N (cs.map bv)) :
    Calls Try.prog 46 #[.pointer (some ⟨g, 0, none⟩)] w fun e w' => ∃ (ts sz : List Int) (A' : Option Addr) (c' : Nat), e = .returned (.slice A' (spansTo ts W sz.length).length c') ∧
      Hid (Grp cs N (nbs W H) N ts sz) ∧ w'.ownsRow w.heap.size 2 1 (.slice A' (spansTo ts W sz.length).length c') (spansTo ts W sz.length).length ((spansTo ts W sz.length).map iv) ∧ Below w.heap.size w w' := by
  have hgl := hb.lt
  have k0 : ∀ w', Below w.heap.size w w' → w'.cell? ⟨g, 0, none⟩ = some (.int .i64 W) := fun w' h => (h.cell hgl).trans (hb.cell 0)
  have k1 : ∀ w', Below w.heap.size w w' → w'.cell? ⟨g, 1, none⟩ = some (.int .i64 H) := fun w' h => (h.cell hgl).trans (hb.cell 1)
  have K0 := Lib.hid k0
  have K1 := Lib.hid k1
  have LG := Lib.hid (l07Groups_any W H N A c g cs w hW hW' hH hH' hl hP hb hA)
  clear k0 k1 hb
  have hN256 : N ≤ 256 := by have := Nat.mul_le_mul hW' hH'; omega
  obtain ⟨R, hR, hRN⟩ : ∃ R : Nat, ((H : Int) - 1) * (W : Int) = (R : Int) ∧ R + W = N := by
    refine ⟨(H - 1) * W, by rw [Int.natCast_mul, Int.natCast_sub hH]; rfl, ?_⟩
    have : (H - 1) * W + W = H * W := by
      conv => lhs; rw [← Nat.succ_mul]
      congr 1
      omega
    rw [this, Nat.mul_comm, hP]
  clear hl hP
  go_enter Try.func46, Try.ntmps46
  go_wp2_with fail
  refine LG.out.mono ?_
  rintro e w1 ⟨ts, ss, Ao, As, co, cz, rfl, G, ho, hos, hds, hb⟩
  have hsz := hb.size
  have I := Lib.hid G.out.inv
  have hss : ss.length ≤ N := I.out.num
  have HO := Lib.hid ho
  have HB := Lib.hid hb
  have b1 : Hid (Blk (w1.alloc (.cells #[] 2)) w1.heap.size 2 #[]) := Blk.new _ _ _
  clear ho hos hds hb LG
  go_wp2
  go_loopw [5, 6] (fun so si wr => ∃ (k : Nat) (Ar : Option Addr) (cr : Nat), k ≤ ss.length ∧ si = .int .i64 k ∧ so = .slice Ar (spansTo ts W k).length cr ∧
      wr.ownsRow w.heap.size 2 1 (.slice Ao N co) N (ts.map iv) ∧ wr.ownsRow w.heap.size 2 1 (.slice Ar (spansTo ts W k).length cr) (spansTo ts W k).length ((spansTo ts W k).map iv) ∧ Dis (.slice Ao N co) (.slice Ar (spansTo ts W k).length cr) ∧
      Below w.heap.size w wr) (fun _ i _ => ss.length - (intOf i).toNat)
  case atStart =>
    refine ⟨0, _, 0, Nat.zero_le _, rfl, rfl, HO.out.alloc _, b1.out.own (n := 0) (size := 1) hsz rfl (by unfold maxLen; omega), fun j h h' => ?_, HB.out.alloc hsz _⟩
    have := (HO.out.lt j h).2
    simp [Value.ownBlock] at h'
    omega
  case round =>
    clear HO HB b1 hsz
    obtain ⟨k, Ar, cr, hk, rfl, rfl, ho, hr, hd, hb⟩ := hrel
    obtain ⟨wo, hwo⟩ : ∃ x, x = wr := ⟨_, rfl⟩
    subst hwo
    have hsz := hb.size
    have hle := spansTo_le ts W k
    by_cases hlt : k < ss.length
    · have HO := Lib.hid ho
      have HR := Lib.hid hr
      have HD := Lib.hid hd
      have HB := Lib.hid hb
      clear ho hr hd hb
      go_wp2
      go_loopw [7, 8, 9] (fun sa sb sx wr => ∃ (x : Nat) (p q : Bool) (m : Nat), x ≤ W ∧ sx = .int .i64 x ∧ sa = .bool p ∧ sb = .bool q ∧ wr = wo.drewN m ∧ Hid (p = decide ((k : Int) ∈ ts.take x)) ∧ Hid (q = decide ((k : Int) ∈ (ts.drop R).take x))) (fun _ _ i _ => W - (intOf i).toNat)
      case atStart => exact ⟨0, false, false, 0, Nat.zero_le _, rfl, rfl, rfl, rfl, by simp [Hid], by simp [Hid]⟩
      case round =>
        obtain ⟨x, p, q, m, hx, rfl, rfl, rfl, hwr, hp, hq⟩ := hrel
        have hb' : Below w.heap.size w wr := hwr ▸ below_drewN HB.out m
        have d0 := K0.out wr hb'
        have d1 := K1.out wr hb'
        by_cases hlx : x < W
        · obtain ⟨gt, co', hvt, _, hgt'⟩ := HO.out.form (by omega)
          obtain ⟨rfl, rfl⟩ : Ao = some ⟨gt, 0, none⟩ ∧ co = co' := by injection hvt with h1 _ h3; exact ⟨h1, h3⟩
          have hgt2 := own_cap HO.out
          have hxl : x < ts.length := by rw [I.out.len]; omega
          have hyl : R + x < ts.length := by rw [I.out.len]; omega
          obtain ⟨y, ey⟩ : ∃ y, ts[x] = y := ⟨_, rfl⟩
          obtain ⟨z, ez⟩ : ∃ z, ts[R + x] = z := ⟨_, rfl⟩
          have cY : wr.cell? ⟨gt, x, none⟩ = some (.int .i64 y) := by
            rw [hwr]
            show wo.cell? _ = _
            rw [HO.out.cellAt _ (by omega), List.getElem?_map, List.getElem?_eq_getElem hxl, ey]; rfl
          have cZ : wr.cell? ⟨gt, R + x, none⟩ = some (.int .i64 z) := by
            rw [hwr]
            show wo.cell? _ = _
            rw [HO.out.cellAt _ (by omega), List.getElem?_map, List.getElem?_eq_getElem hyl, ez]; rfl
          have EY : Hid (ts[x]? = some y) := by rw [← ey]; exact List.getElem?_eq_getElem hxl
          have EZ : Hid ((ts.drop R)[x]? = some z) := by rw [List.getElem?_drop, ← ez]; exact List.getElem?_eq_getElem hyl
          have NP := Lib.hid (decide_take_succ EY.out p hp.out)
          have NQ := Lib.hid (decide_take_succ EZ.out q hq.out)
          have HWR := Lib.hid hwr
          clear ey ez hwr hb' hvt
          cases p <;> cases q <;> (
            go_wp2
            go_quiet (fail)
            go_wp2
            go_roundw
            case rel => exact ⟨x + 1, _, _, _, by omega, by go_num, rfl, rfl, by rw [HWR.out]; exact World.drewN_drewN _ _ _, by have h := NP.out; simp only [Bool.false_or, Bool.true_or] at h; exact h, by have h := NQ.out; simp only [Bool.false_or, Bool.true_or] at h; exact h⟩
            case measure => simp [intOf]; omega)
        · obtain rfl : x = W := by omega
          have hq' : Hid (q = decide ((k : Int) ∈ ts.drop (ts.length - x))) := by
            have h := hq.out
            rw [show ts.length - x = R from by rw [I.out.len]; omega]
            rw [List.take_of_length_le (by rw [List.length_drop, I.out.len]; omega)] at h
            exact h
          have SP : Hid (spanned ts x k = (p && q)) := by rw [hp.out, hq'.out]; rfl
          clear hp hq hq'
          have HB' : Hid (Below w.heap.size w wr) := hb'
          have HO' : Hid (wr.ownsRow w.heap.size 2 1 (.slice Ao N co) N (ts.map iv)) := hwr ▸ HO.out
          have HR' : Hid (wr.ownsRow w.heap.size 2 1 (.slice Ar (spansTo ts x k).length cr) (spansTo ts x k).length ((spansTo ts x k).map iv)) := hwr ▸ HR.out
          have hsz' : w.heap.size ≤ wr.heap.size := hb'.size
          clear hwr hb'
          cases hpq : (p && q)
          · have E1 : Hid (spansTo ts x (k + 1) = spansTo ts x k) := spansTo_no (SP.out.trans hpq)
            cases p <;> cases q <;> first
              | (simp at hpq; done)
              | (clear hpq
                 go_wp2
                 go_roundw
                 case rel => exact ⟨k + 1, Ar, cr, by omega, by go_num, by rw [E1.out], HO'.out, by rw [E1.out]; exact HR'.out, by rw [E1.out]; exact HD.out, HB'.out⟩
                 case measure => simp [intOf]; omega)
          · have E1 : Hid (spansTo ts x (k + 1) = spansTo ts x k ++ [(k : Int)]) := spansTo_yes (SP.out.trans hpq)
            obtain ⟨rfl, rfl⟩ : p = true ∧ q = true := by simpa using hpq
            clear hpq
            go_wp2_with (at_builtin; refine wpList_append_one (W := wr) rfl _ _ _ rfl w.heap.size 2 (.int .i64 0) 8 Try.underlying47 intInfo rfl Ar (spansTo ts x k).length cr _ rfl HR'.out (.int .i64 (k : Int)) _ rfl (by simp) rfl (by unfold maxLen; omega) (by omega) hsz' ?_; intro A3 c3 w3 ho3 hg3 hd3)
            go_roundw
            case rel =>
              refine ⟨k + 1, A3, c3, by omega, by go_num, by rw [E1.out]; simp, own_kept HO'.out hg3 HD.out, ?_, ?_, HB'.out.grown hg3 hsz' (fun j e => (HR'.out.lt j e).1)⟩
              · rw [E1.out, List.length_append, List.map_append]; exact ho3
              · rw [E1.out, List.length_append]; exact (hd3 _ (Old.own HO'.out) HD.out.symm).symm
            case measure => simp [intOf]; omega
    · obtain rfl : k = ss.length := by omega
      have HR := Lib.hid hr
      clear hr ho hd
      go_wp2
      go_ret
      exact ⟨ts, ss, Ar, cr, rfl, G, HR.out, hb⟩
end Go.Proofs.Ytbkacmklgkgamaa

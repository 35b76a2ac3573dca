/- Walks: the text of a grammar, by the program and by the reference. Condition: the grammar is valid (its texts are short). -/
import Derived.Test.YthgdikdcbkhgjaaDoorGv
import Derived.Test.YthgdikdcbkhgjaaDoorApp
namespace Go.Proofs.YthgdikdcbkhgjaaDoor
open Go.RowKit

theorem inter_snoc (sep : List UInt8) : ∀ (xs : List (List UInt8)) (x : List UInt8), sep.intercalate (xs ++ [x]) = if xs = [] then x else sep.intercalate xs ++ sep ++ x := by
  intro xs
  induction xs with
  | nil => intro x; simp [List.intercalate]
  | cons y ys ih =>
    intro x
    rw [if_neg (by simp)]
    cases ys with
    | nil => simp [List.intercalate, List.intersperse]
    | cons z zs =>
      have := ih x
      rw [if_neg (by simp)] at this
      simp only [List.intercalate, List.cons_append, List.intersperse_cons_cons, List.flatten_cons] at this ⊢
      rw [this]
      simp
/-- The pieces of a grammar's text; the text's end behind the first k rules. -/
def piece (r : ByteArray × ByteArray) : List UInt8 := r.1.data.toList ++ [61] ++ r.2.data.toList
def tail_ (rs : List (ByteArray × ByteArray)) (k : Nat) : List UInt8 := Lib.join ((rs.take k).map piece) [47]
theorem tail_zero (rs : List (ByteArray × ByteArray)) : tail_ rs 0 = [] := rfl
theorem tail_one {rs : List (ByteArray × ByteArray)} {r : ByteArray × ByteArray} (h : rs[0]? = some r) : tail_ rs 1 = piece r := by
  unfold tail_ Lib.join
  rw [show (1 : Nat) = 0 + 1 from rfl, List.take_add_one, h]
  simp [List.intercalate]
theorem tail_next {rs : List (ByteArray × ByteArray)} {r : ByteArray × ByteArray} {k : Nat} (h : rs[k]? = some r) (hk : 0 < k) : tail_ rs (k + 1) = tail_ rs k ++ [47] ++ piece r := by
  unfold tail_ Lib.join
  rw [List.take_add_one, h, List.map_append]
  have := inter_snoc [47] ((rs.take k).map piece) (piece r)
  rw [if_neg (fun e => by
    have hl := (List.getElem?_eq_some_iff.1 h).1
    have : ((rs.take k).map piece).length = 0 := by rw [e]; rfl
    rw [List.length_map, List.length_take] at this
    omega)] at this
  exact this
def gtext (s : ByteArray) (rs : List (ByteArray × ByteArray)) : List UInt8 := s.data.toList ++ if rs.length = 0 then [59, 110, 111, 110, 101] else [59] ++ tail_ rs rs.length
theorem bytes_append (a b : ByteArray) : (a ++ b).data.toList = a.data.toList ++ b.data.toList := by
  simp [ByteArray.data_append]
theorem size_append' (a b : ByteArray) : (a ++ b).size = a.size + b.size := by simp

theorem tail_len {rs : List (ByteArray × ByteArray)} (h : ∀ (k : Nat) (r : ByteArray × ByteArray), rs[k]? = some r → r.1.size ≤ 32 ∧ r.2.size ≤ 32) : ∀ k, (tail_ rs k).length ≤ 67 * k := by
  intro k
  induction k with
  | zero => rw [tail_zero]; simp
  | succ k ih =>
    cases e : rs[k]? with
    | none =>
      have : tail_ rs (k + 1) = tail_ rs k := by unfold tail_; rw [List.take_add_one, e]; simp
      rw [this]; omega
    | some r =>
      obtain ⟨h1, h2⟩ := h k r e
      have hp : (piece r).length ≤ 65 := by
        unfold piece
        simp only [List.length_append, List.length_cons, List.length_nil, Array.length_toList]
        have e1 : r.1.data.size = r.1.size := rfl
        have e2 : r.2.data.size = r.2.size := rfl
        omega
      cases k with
      | zero => rw [tail_one e]; omega
      | succ k =>
        rw [tail_next e (by omega)]
        simp only [List.length_append, List.length_cons, List.length_nil]
        omega
theorem own_cap' {w : World} {base g n c : Nat} {e : TypeId} {xs : List Value} (h : w.ownsRow base e 1 (.slice (some ⟨g, 0, none⟩) n c) n xs) : n ≤ c := by
  rcases h.2 with ⟨h', _⟩ | ⟨g', cap, cur, hv, hb, hh, hn, hx, hs, ht⟩
  · simp at h'
  · injection hv with _ _ h3
    omega
/-- A grammar whose texts are short. -/
def Short (s : ByteArray) (rs : List (ByteArray × ByteArray)) : Prop := s.size ≤ 32 ∧ rs.length ≤ 8 ∧ ∀ (k : Nat) (r : ByteArray × ByteArray), rs[k]? = some r → r.1.size ≤ 32 ∧ r.2.size ≤ 32

theorem strInfo : (Tryd.prog.info? 9).map (fun i => (i.zero, i.size, i.bytes)) = some (some (.string ⟨#[]⟩), 1, 16) := by kernel_rfl

set_option maxRecDepth 100000 in
set_option maxHeartbeats 4000000 in
theorem grammarText_any (s0 : ByteArray) (rs : List (ByteArray × ByteArray)) (A : Option Addr) (n c B : Nat) (w : World) (hB : B ≤ w.heap.size) (hl : rs.length = n) (hf : Short s0 rs) (hA : Rd w B 2 A n (rcells rs)) :
    Calls Tryd.prog 27 #[.agg #[.string s0, .slice A n c]] w fun e w' => (∃ x : ByteArray, e = .returned (.string x) ∧ x.data.toList = gtext s0 rs) ∧ Below w.heap.size w w' := by
  obtain ⟨v, ev⟩ : ∃ v, v = w.alloc (.cells #[.string s0, .slice A n c] 24) := ⟨_, rfl⟩
  have hbk : Blk v w.heap.size 24 #[.string s0, .slice A n c] := by rw [ev]; exact Blk.new w _ _
  have hB0 : Below w.heap.size w v := by rw [ev]; exact (Below.refl _ _).alloc (Nat.le_refl _) _
  have k0 : ∀ w', Below v.heap.size v w' → w'.cell? ⟨w.heap.size, 0, none⟩ = some (.string s0) ∧ w'.cell? ⟨w.heap.size, 1, none⟩ = some (.slice A n c) := fun w' h => ⟨(h.cell hbk.lt).trans (hbk.cell 0), (h.cell hbk.lt).trans (hbk.cell 1)⟩
  have hvz : v.heap.size = w.heap.size + 1 := by rw [ev]; simp
  have hlt0 : w.heap.size < v.heap.size := by omega
  have hvA : Rd v v.heap.size 2 A n (rcells rs) := ((hA.more hB).below hB0).more (by omega)
  have b1 : Hid (Blk (v.alloc (.cells #[] 9)) v.heap.size 9 #[]) := Blk.new _ _ _
  have hv1 : Below v.heap.size v (v.alloc (.cells #[] 9)) := (Below.refl _ _).alloc (Nat.le_refl _) _
  obtain ⟨c0, c1⟩ := k0 (v.alloc (.cells #[] 9)) hv1
  obtain ⟨hs, h8, hsr⟩ := hf
  rw [hl] at h8
  have HB0 := Lib.hid hB0
  have HV1 := Lib.hid hv1
  have HVZ := Lib.hid hvz
  have K0 := Lib.hid k0
  have HA := Lib.hid hvA
  have HL := Lib.hid hl
  have HF := Lib.hid hsr
  have EV := Lib.hid ev
  rw [ev] at c0 c1
  have hz : (⟨#[59]⟩ : ByteArray).size = 1 := rfl
  have hz3 : (⟨#[61]⟩ : ByteArray).size = 1 := rfl
  clear hbk hA hl ev hB0 k0 hvA hvz hv1 hsr
  go_enter Tryd.func27, Tryd.ntmps27
  go_wp2
  rw [← EV.out]
  clear c0 c1
  go_loopw [3, 10] (fun so si wr => ∃ (k : Nat) (Al : Option Addr) (cl : Nat) (xs : List ByteArray), k ≤ n ∧ si = .int .i64 k ∧ so = .slice Al k cl ∧ Hid (xs.map (·.data.toList) = (rs.take k).map piece) ∧
      wr.ownsRow v.heap.size 9 1 (.slice Al k cl) k (xs.map Value.string) ∧ Below v.heap.size v wr) (fun _ si _ => n - (intOf si).toNat)
  case atStart => exact ⟨0, _, 0, [], Nat.zero_le _, rfl, rfl, rfl, by rw [← HVZ.out]; exact b1.out.own (n := 0) (size := 1) (Nat.le_refl _) rfl (by unfold maxLen; omega), HV1.out⟩
  case round =>
    obtain ⟨k, Al, cl, xs, hk, rfl, rfl, HXS, ho, hb⟩ := hrel
    obtain ⟨d0, d1⟩ := K0.out wr hb
    have hsz := hb.size
    have HB := Lib.hid hb
    have HO := Lib.hid ho
    clear ho
    by_cases hlt : k < n
    · obtain ⟨b, off, rfl, hbb, hc⟩ := HA.out.2 (by omega)
      obtain ⟨r, hr⟩ : ∃ r, rs[k]? = some r := ⟨_, List.getElem?_eq_getElem (by rw [HL.out]; exact hlt)⟩
      obtain ⟨q1, q2⟩ := rcells_get rs k r hr
      have e0 : wr.cell? ⟨b, off + k * 2, none⟩ = some (.string r.1) := (hb.cell hbb).trans (hc _ _ q1)
      have e1 : wr.cell? ⟨b, off + k * 2 + 1, none⟩ = some (.string r.2) := (hb.cell hbb).trans (hc _ _ q2)
      obtain ⟨f1, f2⟩ := HF.out k r hr
      obtain ⟨l, t⟩ := r
      simp only at e0 e1 f1 f2
      have HR := Lib.hid hr
      have hki : (k : Int) < (n : Int) := by omega
      have HO1 := Lib.hid (HO.out.alloc (.cells #[.string l, .string t] 45))
      have HB1 := Lib.hid (HB.out.alloc hsz (.cells #[.string l, .string t] 45))
      have hsz1 : v.heap.size ≤ (wr.alloc (.cells #[.string l, .string t] 45)).heap.size := HB1.out.size
      clear hr hc q1 q2 hb
      go_wp2_with (at_builtin; refine wpList_append_one (W := wr.alloc (.cells #[.string l, .string t] 45)) rfl _ _ _ rfl v.heap.size 9 (.string ⟨#[]⟩) 16 Tryd.underlying32 strInfo rfl Al k cl _ rfl HO1.out _ _ rfl (by simp) rfl (by unfold maxLen; omega) (by omega) hsz1 ?_; intro A3 c3 w3 ho3 hg3 hd3)
      go_roundw
      case rel =>
        refine ⟨k + 1, A3, c3, xs ++ [l ++ ⟨#[61]⟩ ++ t], by omega, by go_num, rfl, ?_, ?_, HB1.out.grown hg3 hsz1 (fun j e => (HO1.out.lt j e).1)⟩
        · unfold Hid
          rw [List.take_add_one, HR.out, List.map_append, List.map_append, HXS.out]
          simp [piece]
        · rw [List.map_append]; exact ho3
      case measure => simp [intOf]; omega
    · obtain rfl : k = n := by omega
      have HW := Lib.hid (HB0.out.trans (HB.out.mono (by omega)))
      by_cases hk0 : k = 0
      · have HG : Hid (gtext s0 rs = s0.data.toList ++ [59, 110, 111, 110, 101]) := by unfold Hid gtext; rw [HL.out, if_pos hk0]
        subst hk0
        have hz5 : (⟨#[59, 110, 111, 110, 101]⟩ : ByteArray).size = 5 := rfl
        go_wp2
        go_ret
        exact ⟨⟨_, rfl, by rw [HG.out, bytes_append]⟩, HW.out⟩
      · have HG : Hid (gtext s0 rs = s0.data.toList ++ ([59] ++ tail_ rs k)) := by unfold Hid gtext; rw [HL.out, if_neg hk0]
        have hn0 : ((k : Int) == 0) = false := by simp; omega
        obtain ⟨ga, cap, hvl, _, hga⟩ := HO.out.form (by omega)
        obtain ⟨rfl, rfl⟩ : Al = some ⟨ga, 0, none⟩ ∧ cl = cap := by injection hvl with h1 _ h3; exact ⟨h1, h3⟩
        have hxl : xs.length = k := by have := HO.out.1; simpa using this
        have hcap := own_cap' HO.out
        have hxs := HXS.out
        rw [← HL.out, List.take_length] at hxs
        have htl : Lib.join (xs.map (·.data.toList)) [47] = tail_ rs k := by
          unfold tail_
          rw [HXS.out]
        have hlen : (tail_ rs k).length ≤ 67 * k := tail_len (fun j r h => HF.out j r h) k
        have JC := Lib.hid (Tryd.strings_Join ga 0 cl xs ⟨#[47]⟩ wr.drew (fun j x hj => by
            rw [Nat.zero_add]
            show wr.cell? _ = _
            have hjl := (List.getElem?_eq_some_iff.1 hj).1
            rw [HO.out.cellAt _ (by omega), List.getElem?_map, hj]; rfl) hga (by omega) (by omega) (by
            show (Lib.join (xs.map (·.data.toList)) [47]).length ≤ _
            rw [htl]; omega))
        rw [hxl] at JC
        have HTL : Hid ((Lib.join (xs.map (·.data.toList)) (⟨#[47]⟩ : ByteArray).data.toList) = tail_ rs k) := htl
        rw [HTL.out] at JC
        obtain ⟨j, hj⟩ : ∃ j : ByteArray, (⟨(tail_ rs k).toArray⟩ : ByteArray) = j := ⟨_, rfl⟩
        have hjs : j.size ≤ 67 * k := by rw [← hj]; simpa [ByteArray.size] using hlen
        have HJ : Hid (j.data.toList = tail_ rs k) := by rw [← hj]; unfold Hid; simp
        rw [hj] at JC
        have HJC := Lib.hid JC
        clear hj htl hxs hvl hlen JC hxl
        have g1 : ¬ 9223372036854775807 < s0.size + 1 := by omega
        have g2 : ¬ 9223372036854775807 < s0.size + 1 + j.size := by omega
        go_wp2
        go_region_held3 (fun w' => w'.cell? ⟨w.heap.size, 0, none⟩ = some (.string s0) ∧ Below wr.heap.size wr w')
          (first | exact ⟨d0, (Below.refl _ _).drew⟩ | exact ⟨(K0.out _ (HB.out.trans (((Below.refl _ _).drew.trans hb7).mono hsz))).1, (Below.refl _ _).drew.trans hb7⟩)
          (first
            | (go_at_call 49; refine HJC.out.out.mono ?_; rintro e w7 ⟨rfl, hb7⟩))
        all_goals
          have HW7 := Lib.hid (HW.out.trans (((Below.refl wr.heap.size wr).drew.trans hb7).mono (by omega)))
          go_wp2
          go_ret
          refine ⟨⟨_, rfl, ?_⟩, HW7.out⟩
          rw [HG.out, bytes_append, bytes_append, HJ.out]
          simp
end Go.Proofs.YthgdikdcbkhgjaaDoor

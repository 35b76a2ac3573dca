/- Walks: the laws' own functions on shapes: how large they are, their copies, whether two are the same. Conditions: as each says. -/
import Derived.Test.YtlklpfjcnbkhlaaLs
import Derived.WalkKit
namespace Go.Proofs.Ytlklpfjcnbkhlaa
open Go.RowKit

/-- How large: -1 if too large; else at most what was left, and Q holds. -/
def SzR (left : Int) (Q : Prop) (w : World) (e : Ending) (w' : World) : Prop := ∃ r : Int, e = .returned (.int .i64 r) ∧ -1 ≤ r ∧ r ≤ left ∧ (0 ≤ r → Q) ∧ Below w.heap.size w w'
def Shp.val (s : Shp) : Value := .agg #[.string s.nm, .int .i64 s.wd, .int .i64 s.hi, .slice s.A s.cs.length s.c]
/-- What a shape says. -/
def Shp.ct (s : Shp) : ByteArray × Int × Int × List Bool := (s.nm, s.wd, s.hi, s.cs)
def Same (l m : List Shp) : Prop := l.map Shp.ct = m.map Shp.ct
theorem Same.len {l m : List Shp} (h : Same l m) : l.length = m.length := by
  have := congrArg List.length h
  simpa using this
theorem catS_same {l m : List Shp} (h : Same l m) : catS l = catS m := by
  have e : ∀ l : List Shp, catS l = (l.map Shp.ct).flatMap fun x => wholeL x.1 x.2.1.toNat x.2.2.1.toNat x.2.2.2 := fun l => by
    rw [List.flatMap_map]; rfl
  rw [e l, e m, h]
theorem stOk_same {l m : List Shp} (h : Same l m) : stOk l = stOk m := by
  have e : ∀ l : List Shp, l.all Shp.ok = (l.map Shp.ct).all fun x => okSh x.1 x.2.1 x.2.2.1 x.2.2.2.length := fun l => by
    rw [List.all_map]; rfl
  unfold stOk
  rw [h.len, e l, e m, h]
theorem stT_same {l m : List Shp} (h : Same l m) : stT l = stT m := by
  unfold stT
  rw [stOk_same h, catS_same h]
theorem Same.get {l m : List Shp} (h : Same l m) {k : Nat} {s t : Shp} (hs : l[k]? = some s) (ht : m[k]? = some t) : s.ct = t.ct := by
  have h1 : (l.map Shp.ct)[k]? = some s.ct := by rw [List.getElem?_map, hs]; rfl
  have h2 : (m.map Shp.ct)[k]? = some t.ct := by rw [List.getElem?_map, ht]; rfl
  rw [h, h2] at h1
  exact (Option.some.inj h1).symm
theorem ShF.same {l m : List Shp} (h : Same l m) (hf : ShF l) : ShF m := fun t ht => by
  obtain ⟨k, hk⟩ := List.getElem?_of_mem ht
  have hkl : k < l.length := by rw [h.len]; exact (List.getElem?_eq_some_iff.1 hk).1
  have := h.get (List.getElem?_eq_getElem hkl) hk
  have h2 := hf _ (List.getElem_mem hkl)
  unfold Shp.ct at this
  injection this with a1 a2
  injection a2 with a2 a3
  injection a3 with a3 a4
  rw [a1, a4] at h2
  exact h2

set_option maxRecDepth 100000 in
set_option maxHeartbeats 400000 in
theorem szShape_any (s : Shp) (left : Int) (w : World) (h1 : s.nm.size ≤ maxLen) (h2 : s.cs.length ≤ maxLen) (h0 : 0 ≤ left) (h3 : left ≤ 1048576) :
    Calls Try.prog 20 #[.agg #[.string s.nm, .int .i64 s.wd, .int .i64 s.hi, .slice s.A s.cs.length s.c], .int .i64 left] w (SzR left ((s.nm.size : Int) + s.cs.length ≤ left) w) := by
  obtain ⟨nm, wd, hi, A, c, cs⟩ := s
  simp only at h1 h2 ⊢
  have hn := h1
  unfold maxLen at hn
  obtain ⟨v, ev⟩ : ∃ v, v = w.alloc (.cells #[.string nm, .int .i64 wd, .int .i64 hi, .slice A cs.length c] 46) := ⟨_, rfl⟩
  have hb : Below w.heap.size w v := by rw [ev]; exact (Below.refl _ _).alloc (Nat.le_refl _) _
  have hk : Blk v w.heap.size 46 #[.string nm, .int .i64 wd, .int .i64 hi, .slice A cs.length c] := by rw [ev]; exact Blk.new _ _ _
  have c1 : v.cell? ⟨w.heap.size, 1, none⟩ = some (.int .i64 wd) := hk.cell 1
  have c2 : v.cell? ⟨w.heap.size, 2, none⟩ = some (.int .i64 hi) := hk.cell 2
  have c3 : v.cell? ⟨w.heap.size, 3, none⟩ = some (.slice A cs.length c) := hk.cell 3
  have HB := Lib.hid hb
  have EV := Lib.hid ev
  have SC := Lib.hid (fun l a b => szField_any wd hi A cs.length c l v h2 a b)
  obtain ⟨n, en⟩ : ∃ n, cs.length = n := ⟨_, rfl⟩
  rw [en] at SC c3 EV ⊢
  clear hb hk ev h2 en
  by_cases a : left - nm.size < 0
  · go_enter Try.func20, Try.ntmps20
    go_wp2
    go_ret
    exact ⟨-1, rfl, by omega, by omega, fun _ => by omega, by rw [← EV.out]; exact HB.out⟩
  · have SC2 := SC.out (left - nm.size) (by omega) (by omega)
    have HSC := Lib.hid SC2
    clear SC SC2
    rw [EV.out] at c1 c2 c3
    by_cases b : left - nm.size - n < 0
    all_goals
      have hbb := Lib.hid b
      first | rw [if_pos b] at HSC | rw [if_neg b] at HSC
      clear b
      go_enter Try.func20, Try.ntmps20
      go_wp2_with fail
      rw [← EV.out]
      refine HSC.out.mono ?_
      rintro e w1 ⟨rfl, hb1⟩
      have HB1 := Lib.hid (HB.out.trans (hb1.mono HB.out.size))
      have b := hbb.out
      clear hb1
      go_wp2
      go_ret
      first
        | exact ⟨-1, rfl, by omega, by omega, fun _ => by omega, HB1.out⟩
        | exact ⟨left - nm.size - n, rfl, by omega, by omega, fun _ => by omega, HB1.out⟩
set_option maxRecDepth 100000 in
set_option maxHeartbeats 1000000 in
theorem szShapeS_any (l : List Shp) (A : Option Addr) (n c : Nat) (left : Int) (w : World) (hn : n ≤ maxLen) (hf : ShF l) (h0 : 0 ≤ left) (h1 : left ≤ 1048576) (hA : ShR w w.heap.size A n l) :
    Calls Try.prog 6 #[.slice A n c, .int .i64 left] w (SzR left ((n : Int) ≤ left ∧ ∀ s ∈ l, (s.cs.length : Int) ≤ left) w) := by
  have HA := Lib.hid hA
  have HF := Lib.hid hf
  clear hA hf
  unfold maxLen at hn
  by_cases a : left - n < 0
  · go_enter Try.func6, Try.ntmps6
    go_wp2
    go_ret
    exact ⟨-1, rfl, by omega, by omega, fun _ => by omega, Below.refl _ _⟩
  · go_enter Try.func6, Try.ntmps6
    go_wp2
    go_loopw [1, 5] (fun sl si wr => ∃ (k : Nat) (x : Int), k ≤ n ∧ si = .int .i64 k ∧ sl = .int .i64 x ∧ 0 ≤ x ∧ x ≤ left ∧ Hid (∀ s ∈ l.take k, (s.cs.length : Int) ≤ left) ∧ Below w.heap.size w wr) (fun _ si _ => n - (intOf si).toNat)
    case atStart => exact ⟨0, left - n, Nat.zero_le _, rfl, rfl, by omega, by omega, by unfold Hid; simp, Below.refl _ _⟩
    case round =>
      obtain ⟨k, x, hk, rfl, rfl, hx0, hx1, HX, hb⟩ := hrel
      have hsz := hb.size
      by_cases hlt : k < n
      · obtain ⟨s, hs⟩ : ∃ s, l[k]? = some s := ⟨_, List.getElem?_eq_getElem (by rw [HA.out.1]; exact hlt)⟩
        obtain ⟨b, off, rfl, hbb, q0, q1, q2, q3⟩ := HA.out.get hs
        have c0 := (hb.cell (p := ⟨b, off + k * 4, none⟩) hbb).trans q0
        have c1 := (hb.cell (p := ⟨b, off + k * 4 + 1, none⟩) hbb).trans q1
        have c2 := (hb.cell (p := ⟨b, off + k * 4 + 2, none⟩) hbb).trans q2
        have c3 := (hb.cell (p := ⟨b, off + k * 4 + 3, none⟩) hbb).trans q3
        obtain ⟨f1, f2⟩ := HF.out s (List.mem_of_getElem? hs)
        have SC := Lib.hid (szShape_any s x wr f1 f2 hx0 (by omega))
        have HB := Lib.hid hb
        have HSS := Lib.hid hs
        have hki : (k : Int) < (n : Int) := by omega
        clear hs q0 q1 q2 q3 f1 f2 hb
        go_wp2_with fail
        refine SC.out.mono ?_
        rintro e w1 ⟨y, rfl, hy0, hy1, hy2, hb1⟩
        have HB1 := Lib.hid (HB.out.trans (hb1.mono hsz))
        have HY2 := Lib.hid hy2
        clear hb1 hy2
        by_cases hy : y < 0
        · go_wp2
          go_ret
          exact ⟨-1, rfl, by omega, by omega, fun _ => by omega, HB1.out⟩
        · go_wp2
          go_roundw
          case rel => exact ⟨k + 1, y, by omega, by go_num, rfl, by omega, by omega, fun t ht => by
            rw [List.take_add_one, HSS.out, List.mem_append] at ht
            rcases ht with ht | ht
            · exact HX.out t ht
            · have := HY2.out (by omega)
              simp at ht
              rw [ht]; omega, HB1.out⟩
          case measure => simp [intOf]; omega
      · obtain rfl : k = n := by omega
        have HB := Lib.hid hb
        clear hb
        go_wp2
        go_ret
        exact ⟨x, rfl, by omega, by omega, fun _ => ⟨by omega, by have := HX.out; rw [List.take_of_length_le (by rw [HA.out.1]; omega)] at this; exact this⟩, HB.out⟩
set_option maxRecDepth 100000 in
set_option maxHeartbeats 400000 in
theorem toShape_any (nm : ByteArray) (wd hi : Int) (A : Option Addr) (c n : Nat) (cs : List Bool) (w : World) (hn : n ≤ 1048576) (hA : Rd w w.heap.size 1 A n (cs.map bv)) :
    Calls Try.prog 23 #[.agg #[.string nm, .int .i64 wd, .int .i64 hi, .slice A n c]] w fun e w' => ∃ A', e = .returned (.agg #[.string nm, .int .i64 wd, .int .i64 hi, .slice A' n n]) ∧ w'.ownsRow w.heap.size 4 1 (.slice A' n n) n (cs.map bv) ∧ Below w.heap.size w w' := by
  have hb0 : ∀ o o' o'', Below w.heap.size w (((w.alloc o).alloc o').alloc o'') := fun o o' o'' => (((Below.refl _ _).alloc (Nat.le_refl _) _).alloc (by simp) _).alloc (by simp; omega) _
  have H0 := Lib.hid hb0
  clear hb0
  go_enter Try.func23, Try.ntmps23
  go_wp2_with fail
  refine (toField_any wd hi A n c cs _ hn ((hA.below (H0.out _ _ _)).more (by simp; omega))).mono ?_
  rintro e w1 ⟨A', rfl, ho, hb1⟩
  have ka : Blk w1 (w.heap.size + 1) 34 #[.string ⟨#[]⟩, .int .i64 0, .int .i64 0, .slice none 0 0] := Blk.below ((Blk.at_ _ _ _ (by simp)).alloc _) hb1 (by simp)
  have kb : Blk w1 (w.heap.size + 1 + 1) 34 #[.string nm, .int .i64 0, .int .i64 0, .slice none 0 0] := Blk.below (Blk.at_ _ _ _ (by simp)) hb1 (by simp)
  have hz1 := hb1.size
  simp only [World.size_alloc] at hz1
  have W1 := Lib.hid ((H0.out _ _ _).trans (hb1.mono (by simp; omega)))
  have HO := Lib.hid ho
  clear ho hb1
  unfold fieldV
  go_wp2_with (first
    | (refine wpList_store_blk rfl _ _ _ rfl (w.heap.size + 1 + 1) 1 rfl _ rfl [.int .i64 wd, .int .i64 hi, .slice A' n n] rfl 34 _ #[.string nm, .int .i64 wd, .int .i64 hi, .slice A' n n] kb (by kernel_rfl) (by simp) (by simp [Value.oneCell']) rfl ?_; intro w2 k2 g2
       have ka2 := ka.grown g2 (by simp))
    | (refine wpList_load_blk rfl _ _ rfl (w.heap.size + 1 + 1) 0 rfl 34 _ k2 [.string nm, .int .i64 wd, .int .i64 hi, .slice A' n n] rfl _ Try.underlying34 rfl (by kernel_rfl) ?_)
    | (refine wpList_store_blk rfl _ _ _ rfl (w.heap.size + 1) 0 rfl _ rfl [.string nm, .int .i64 wd, .int .i64 hi, .slice A' n n] rfl 34 _ #[.string nm, .int .i64 wd, .int .i64 hi, .slice A' n n] ka2 (by kernel_rfl) (by simp) (by simp [Value.oneCell']) rfl ?_; intro w3 k3 g3)
    | fail)
  refine bodyPost_ret (results_cell_row rfl _ w3 (w.heap.size + 1) 34 _ (0, 0) _ rfl k3 Try.underlying34 rfl (by kernel_rfl)) rfl ?_
  have hz2 := g2.size
  exact ⟨A', rfl, own_base (own_grown (own_grown HO.out g2 (by simp)) g3 (by simp)) (by simp; omega), (W1.out.grown g2 (by omega) (by simp; omega)).grown g3 (by omega) (by simp)⟩
set_option maxRecDepth 100000 in
set_option maxHeartbeats 400000 in
theorem eqShape_same (nm : ByteArray) (wd hi : Int) (A A' : Option Addr) (n c c' : Nat) (cs : List Bool) (w : World) (hn : n ≤ maxLen)
    (hA : Rd w w.heap.size 1 A n (cs.map bv)) (hA' : Rd w w.heap.size 1 A' n (cs.map bv)) :
    Calls Try.prog 13 #[.agg #[.string nm, .int .i64 wd, .int .i64 hi, .slice A n c], .agg #[.string nm, .int .i64 wd, .int .i64 hi, .slice A' n c']] w fun e w' => e = .returned (.bool true) ∧ Below w.heap.size w w' := by
  have hb0 : ∀ o o', Below w.heap.size w ((w.alloc o).alloc o') := fun o o' => ((Below.refl _ _).alloc (Nat.le_refl _) _).alloc (by simp) _
  have H0 := Lib.hid hb0
  clear hb0
  have h1 : (!nm.toList == nm.toList) = false := by simp
  go_enter Try.func13, Try.ntmps13
  go_wp2_with fail
  refine (eqField_same wd hi A A' n c c' cs _ hn ((hA.below (H0.out _ _)).more (by simp; omega)) ((hA'.below (H0.out _ _)).more (by simp; omega))).mono ?_
  rintro e w1 ⟨rfl, hb1⟩
  go_wp2
  go_ret
  exact ⟨rfl, (H0.out _ _).trans (hb1.mono (by simp; omega))⟩
set_option maxRecDepth 100000 in
set_option maxHeartbeats 1000000 in
theorem eqShapeS_same (A A' : Option Addr) (n c c' : Nat) (l m : List Shp) (w : World) (hn : n ≤ maxLen) (hf : ShF l) (hs : Same l m) (hA : ShR w w.heap.size A n l) (hA' : ShR w w.heap.size A' n m) :
    Calls Try.prog 10 #[.slice A n c, .slice A' n c'] w fun e w' => e = .returned (.bool true) ∧ Below w.heap.size w w' := by
  have HA := Lib.hid hA
  have HA' := Lib.hid hA'
  have HS := Lib.hid hs
  have HF := Lib.hid hf
  clear hA hA' hs hf
  unfold maxLen at hn
  go_enter Try.func10, Try.ntmps10
  go_wp2
  go_loopw [5] (fun i wr => ∃ k : Nat, k ≤ n ∧ i = .int .i64 k ∧ Below w.heap.size w wr) (fun i _ => n - (intOf i).toNat)
  case atStart => exact ⟨0, Nat.zero_le _, rfl, Below.refl _ _⟩
  case round =>
    obtain ⟨k, hk, rfl, hb⟩ := hrel
    by_cases hlt : k < n
    · obtain ⟨s, hs⟩ : ∃ s, l[k]? = some s := ⟨_, List.getElem?_eq_getElem (by rw [HA.out.1]; exact hlt)⟩
      obtain ⟨t, ht⟩ : ∃ s, m[k]? = some s := ⟨_, List.getElem?_eq_getElem (by rw [HA'.out.1]; exact hlt)⟩
      obtain ⟨b, off, rfl, hbb, q0, q1, q2, q3⟩ := HA.out.get hs
      obtain ⟨b', off', rfl, hbb', r0, r1, r2, r3⟩ := HA'.out.get ht
      have hct := HS.out.get hs ht
      have R1 := HA.out.2.2 s (List.mem_of_getElem? hs)
      have R2 := HA'.out.2.2 t (List.mem_of_getElem? ht)
      obtain ⟨_, f2⟩ := HF.out s (List.mem_of_getElem? hs)
      obtain ⟨nm, wd, hi, B1, c1, cs⟩ := s
      obtain ⟨nm', wd', hi', B2, c2, cs'⟩ := t
      unfold Shp.ct at hct
      simp only [Prod.mk.injEq] at hct
      obtain ⟨rfl, rfl, rfl, rfl⟩ := hct
      simp only at q0 q1 q2 q3 r0 r1 r2 r3 R1 R2 f2
      have d0 := (hb.cell (p := ⟨b, off + k * 4, none⟩) hbb).trans q0
      have d1 := (hb.cell (p := ⟨b, off + k * 4 + 1, none⟩) hbb).trans q1
      have d2 := (hb.cell (p := ⟨b, off + k * 4 + 2, none⟩) hbb).trans q2
      have d3 := (hb.cell (p := ⟨b, off + k * 4 + 3, none⟩) hbb).trans q3
      have e0 := (hb.cell (p := ⟨b', off' + k * 4, none⟩) hbb').trans r0
      have e1 := (hb.cell (p := ⟨b', off' + k * 4 + 1, none⟩) hbb').trans r1
      have e2 := (hb.cell (p := ⟨b', off' + k * 4 + 2, none⟩) hbb').trans r2
      have e3 := (hb.cell (p := ⟨b', off' + k * 4 + 3, none⟩) hbb').trans r3
      have EC := Lib.hid (eqShape_same nm wd hi B1 B2 cs.length c1 c2 cs wr.drew f2 ((R1.below hb.drew).more (by have := hb.size; exact this)) ((R2.below hb.drew).more (by have := hb.size; exact this)))
      have Hb := Lib.hid hb
      have hki : (k : Int) < (n : Int) := by omega
      clear hs ht q0 q1 q2 q3 r0 r1 r2 r3 R1 R2 f2 hb
      go_wp2
      go_still_tail 8, (by kernel_rfl)
      go_wp2_with (go_at_call 13; refine EC.out.mono ?_; rintro e w1 ⟨rfl, hb1⟩)
      go_roundw
      case rel => exact ⟨k + 1, by omega, by go_num, Hb.out.trans ((Below.refl _ _).drew.trans (hb1.mono Hb.out.size))⟩
      case measure => simp [intOf]; omega
    · have Hb := Lib.hid hb
      clear hb
      go_wp2
      go_ret
      exact ⟨rfl, Hb.out⟩
end Go.Proofs.Ytlklpfjcnbkhlaa

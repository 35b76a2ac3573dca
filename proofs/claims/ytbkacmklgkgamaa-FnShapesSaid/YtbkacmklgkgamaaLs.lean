/- Walks: lists of shapes stored, by the program and by the reference. Conditions: texts and lists are shorter than 2^63. -/
import Derived.Test.YtbkacmklgkgamaaSv
namespace Go.Proofs.Ytbkacmklgkgamaa
open Go.RowKit

/-- A shape as it lies in a list. -/
structure Shp where
  nm : ByteArray
  wd : Int
  hi : Int
  A : Option Addr
  c : Nat
  cs : List Bool
def Shp.cells (s : Shp) : List Value := [.string s.nm, .int .i64 s.wd, .int .i64 s.hi, .slice s.A s.cs.length s.c]
def shCells (l : List Shp) : List Value := l.flatMap Shp.cells
theorem shCells_len (l : List Shp) : (shCells l).length = l.length * 4 := by
  unfold shCells
  induction l with
  | nil => rfl
  | cons s l ih => rw [List.flatMap_cons, List.length_append, ih, List.length_cons]; simp [Shp.cells]; omega
theorem shCells_at (l : List Shp) : ∀ (k j : Nat) (s : Shp), l[k]? = some s → j < 4 → (shCells l)[k * 4 + j]? = s.cells[j]? := by
  induction l with
  | nil => intro k j s h; simp at h
  | cons a l ih =>
    intro k j s h hj
    have e : shCells (a :: l) = a.cells ++ shCells l := by simp [shCells]
    have ha : a.cells.length = 4 := rfl
    rw [e]
    cases k with
    | zero =>
      simp at h
      subst h
      rw [Nat.zero_mul, Nat.zero_add, List.getElem?_append_left (by omega)]
    | succ k =>
      rw [List.getElem?_append_right (by omega), ha, show (k + 1) * 4 + j - 4 = k * 4 + j by omega]
      exact ih k j s (by simpa using h) hj
/-- The slice reads as these shapes, below block B. -/
def ShR (w : World) (B : Nat) (A : Option Addr) (n : Nat) (l : List Shp) : Prop :=
  l.length = n ∧ Rd w B 4 A n (shCells l) ∧ ∀ s ∈ l, Rd w B 1 s.A s.cs.length (s.cs.map bv)
def ShF (l : List Shp) : Prop := ∀ s ∈ l, s.nm.size ≤ maxLen ∧ s.cs.length ≤ maxLen
section
variable {w w' : World} {B B' n : Nat} {A : Option Addr} {l : List Shp}
theorem ShR.below (h : ShR w B A n l) (hb : Below B w w') : ShR w' B A n l := ⟨h.1, h.2.1.below hb, fun s hs => (h.2.2 s hs).below hb⟩
theorem ShR.more (h : ShR w B A n l) (hB : B ≤ B') : ShR w B' A n l := ⟨h.1, h.2.1.more hB, fun s hs => (h.2.2 s hs).more hB⟩
theorem ShR.get (h : ShR w B A n l) {k : Nat} {s : Shp} (hs : l[k]? = some s) : ∃ b off, A = some ⟨b, off, none⟩ ∧ b < B ∧ w.cell? ⟨b, off + k * 4, none⟩ = some (.string s.nm) ∧ w.cell? ⟨b, off + k * 4 + 1, none⟩ = some (.int .i64 s.wd) ∧
    w.cell? ⟨b, off + k * 4 + 2, none⟩ = some (.int .i64 s.hi) ∧ w.cell? ⟨b, off + k * 4 + 3, none⟩ = some (.slice s.A s.cs.length s.c) := by
  have hk : k < n := by have := (List.getElem?_eq_some_iff.1 hs).1; rw [h.1] at this; exact this
  obtain ⟨b, off, e, hb, hc⟩ := h.2.1.2 (by omega)
  refine ⟨b, off, e, hb, ?_, ?_, ?_, ?_⟩
  · exact hc (k * 4) _ (by have := shCells_at l k 0 s hs (by omega); simpa [Shp.cells] using this)
  · rw [Nat.add_assoc]; exact hc (k * 4 + 1) _ (by have := shCells_at l k 1 s hs (by omega); simpa [Shp.cells] using this)
  · rw [Nat.add_assoc]; exact hc (k * 4 + 2) _ (by have := shCells_at l k 2 s hs (by omega); simpa [Shp.cells] using this)
  · rw [Nat.add_assoc]; exact hc (k * 4 + 3) _ (by have := shCells_at l k 3 s hs (by omega); simpa [Shp.cells] using this)
end

def Shp.ok (s : Shp) : Bool := okSh s.nm s.wd s.hi s.cs.length
def Shp.whole (s : Shp) : List Nat := wholeL s.nm s.wd.toNat s.hi.toNat s.cs
def catS (l : List Shp) : List Nat := l.flatMap Shp.whole
def stOk (l : List Shp) : Bool := decide (l.length ≤ 8) && l.all Shp.ok
def stT (l : List Shp) : Ending := .returned (.tuple (if stOk l = true then #[.string (txt (catS l)), .bool true] else #[.string ⟨#[]⟩, .bool false]))
theorem txt_append (a b : List Nat) : txt a ++ txt b = txt (a ++ b) := by
  apply ByteArray.ext
  simp [txt]
theorem ok_parts {s : Shp} (h : s.ok = true) : ∃ W H : Nat, s.wd = (W : Int) ∧ s.hi = (H : Int) ∧ W ≤ 16 ∧ H ≤ 16 ∧ s.nm.size ≤ 8 ∧ s.cs.length ≤ 256 ∧ 1 ≤ s.cs.length := by
  unfold Shp.ok okSh at h
  rw [Bool.and_eq_true] at h
  obtain ⟨x1, x2⟩ := h
  obtain ⟨W, H, h1, h2, hW, hW', hH, hH', hWH⟩ := valid_nat x2
  have hnm : s.nm.size ≤ 8 := by
    unfold nameB at x1
    simp at x1
    omega
  have := Nat.mul_le_mul hW' hH'
  have := Nat.mul_le_mul hW hH
  exact ⟨W, H, h1, h2, hW', hH', hnm, by omega, by omega⟩
theorem whole_len {s : Shp} (h : s.ok = true) : s.whole.length ≤ 1045 := by
  obtain ⟨W, H, h1, h2, hW', hH', hnm, hN, _⟩ := ok_parts h
  have := pack_len s.cs
  unfold Shp.whole
  rw [wholeL_len]
  omega
theorem catS_succ {l : List Shp} {k : Nat} {s : Shp} (h : l[k]? = some s) : catS (l.take (k + 1)) = catS (l.take k) ++ s.whole := by
  unfold catS
  rw [List.take_add_one, h, List.flatMap_append]
  simp
theorem stOk_no {l : List Shp} {k : Nat} {s : Shp} (h : l[k]? = some s) (hs : s.ok = false) : stOk l = false := by
  unfold stOk
  have : l.all Shp.ok = false := by
    rw [List.all_eq_false]
    exact ⟨s, List.mem_of_getElem? h, by rw [hs]; simp⟩
  rw [this, Bool.and_false]
theorem all_succ {l : List Shp} {k : Nat} {s : Shp} (h : l[k]? = some s) (ha : ∀ x ∈ l.take k, x.ok = true) (hs : s.ok = true) : ∀ x ∈ l.take (k + 1), x.ok = true := by
  intro x hx
  rw [List.take_add_one, h, List.mem_append] at hx
  rcases hx with hx | hx
  · exact ha x hx
  · simp at hx; rw [hx]; exact hs

set_option maxRecDepth 100000 in
set_option maxHeartbeats 4000000 in
theorem implStoreShapes_any (A : Option Addr) (n c : Nat) (l : List Shp) (w : World) (hn : n ≤ maxLen) (hf : ShF l) (hA : ShR w w.heap.size A n l) :
    Calls Try.prog 14 #[.slice A n c] w fun e w' => e = stT l ∧ Below w.heap.size w w' := by
  have HA := Lib.hid hA
  have HF := Lib.hid hf
  clear hA hf
  unfold maxLen at hn
  by_cases h8 : n ≤ 8
  · go_enter Try.func14, Try.ntmps14
    go_wp2
    go_loopw [4, 14] (fun so si wr => ∃ (k : Nat), k ≤ n ∧ si = .int .i64 k ∧ so = .string (txt (catS (l.take k))) ∧ Hid (∀ x ∈ l.take k, x.ok = true) ∧ Hid ((catS (l.take k)).length ≤ 1045 * k) ∧ Below w.heap.size w wr) (fun _ si _ => n - (intOf si).toNat)
    case atStart => exact ⟨0, Nat.zero_le _, rfl, rfl, by unfold Hid; simp, by unfold Hid; simp [catS], Below.refl _ _⟩
    case round =>
      obtain ⟨k, hk, rfl, rfl, HO, HS, hb⟩ := hrel
      by_cases hlt : k < n
      · obtain ⟨s, hs⟩ : ∃ s, l[k]? = some s := ⟨_, List.getElem?_eq_getElem (by rw [HA.out.1]; exact hlt)⟩
        obtain ⟨b, off, rfl, hbb, q0, q1, q2, q3⟩ := HA.out.get hs
        have c0 := (hb.cell (p := ⟨b, off + k * 4, none⟩) hbb).trans q0
        have c1 := (hb.cell (p := ⟨b, off + k * 4 + 1, none⟩) hbb).trans q1
        have c2 := (hb.cell (p := ⟨b, off + k * 4 + 2, none⟩) hbb).trans q2
        have c3 := (hb.cell (p := ⟨b, off + k * 4 + 3, none⟩) hbb).trans q3
        have hsm := List.mem_of_getElem? hs
        obtain ⟨f1, f2⟩ := HF.out s hsm
        have HRS := Lib.hid (HA.out.2.2 s hsm)
        have hkb : Blk (wr.alloc (.cells #[.string s.nm, .int .i64 s.wd, .int .i64 s.hi, .slice s.A s.cs.length s.c] 33)) wr.heap.size 33 #[.string s.nm, .int .i64 s.wd, .int .i64 s.hi, .slice s.A s.cs.length s.c] := Blk.new wr _ _
        have hba : Below w.heap.size w (wr.alloc (.cells #[.string s.nm, .int .i64 s.wd, .int .i64 s.hi, .slice s.A s.cs.length s.c] 33)) := hb.alloc hb.size _
        have HKB := Lib.hid hkb
        have HBA := Lib.hid hba
        have STC := Lib.hid (StoreShape_any s.nm s.wd s.hi s.A s.cs.length s.c s.cs (wr.alloc (.cells #[.string s.nm, .int .i64 s.wd, .int .i64 s.hi, .slice s.A s.cs.length s.c] 33)) f1 rfl ((HRS.out.below hba).more hba.size))
        clear hkb hba
        have HSS := Lib.hid hs
        have HB := Lib.hid hb
        have hki : (k : Int) < (n : Int) := by omega
        have hsO : okSh s.nm s.wd s.hi s.cs.length = s.ok := rfl
        rw [hsO] at STC
        have hlen := HS.out
        obtain ⟨L, hL⟩ : ∃ L, catS (l.take k) = L := ⟨_, rfl⟩
        rw [hL] at hlen
        have hts : (txt L).size = L.length := txt_size L
        have HLL := Lib.hid hL
        rw [hL]
        clear hb hs hsm q0 q1 q2 q3 hsO hL
        cases hok : s.ok
        · rw [hok] at STC
          have HN := Lib.hid (stOk_no HSS.out hok)
          clear hok
          go_wp2_with (first | (refine wpList_load_blk rfl _ _ rfl wr.heap.size 0 rfl 33 _ HKB.out [.string s.nm, .int .i64 s.wd, .int .i64 s.hi, .slice s.A s.cs.length s.c] rfl _ Try.underlying33 rfl (by kernel_rfl) ?_) | fail)
          refine STC.out.mono ?_
          rintro e w1 ⟨rfl, hb1⟩
          rw [if_neg (by simp)]
          have HBF := Lib.hid (HBA.out.trans (hb1.mono HBA.out.size))
          clear hb1
          go_wp2
          go_ret2
          refine ⟨?_, HBF.out⟩
          unfold stT
          rw [HN.out]
          rfl
        · rw [hok] at STC
          have hwl := whole_len hok
          have HAL := Lib.hid (all_succ HSS.out HO.out hok)
          have HCT := Lib.hid (catS_succ HSS.out)
          rw [HLL.out] at HCT
          have hwh : s.whole = wholeL s.nm s.wd.toNat s.hi.toNat s.cs := rfl
          rw [← hwh] at STC
          obtain ⟨M, hM⟩ : ∃ M, s.whole = M := ⟨_, rfl⟩
          rw [hM] at hwl HCT STC
          have htm : (txt M).size = M.length := txt_size M
          clear hok hM hwh
          go_wp2_with (first | (refine wpList_load_blk rfl _ _ rfl wr.heap.size 0 rfl 33 _ HKB.out [.string s.nm, .int .i64 s.wd, .int .i64 s.hi, .slice s.A s.cs.length s.c] rfl _ Try.underlying33 rfl (by kernel_rfl) ?_) | fail)
          refine STC.out.mono ?_
          rintro e w1 ⟨rfl, hb1⟩
          rw [if_pos trivial]
          have HBF := Lib.hid (HBA.out.trans (hb1.mono HBA.out.size))
          clear hb1
          go_wp2
          go_roundw
          case rel => exact ⟨k + 1, by omega, by go_num, by rw [HCT.out, txt_append], HAL.out, by unfold Hid; rw [HCT.out, List.length_append]; omega, HBF.out⟩
          case measure => simp [intOf]; omega
      · obtain rfl : k = n := by omega
        have HE : Hid (stT l = .returned (.tuple #[.string (txt (catS (l.take k))), .bool true])) := by
          unfold Hid stT
          have h1 := HA.out.1
          have h2 := HO.out
          rw [List.take_of_length_le (by omega)] at h2 ⊢
          have : stOk l = true := by
            unfold stOk
            rw [Bool.and_eq_true, List.all_eq_true]
            exact ⟨by simp; omega, h2⟩
          rw [this, if_pos rfl]
        have HB := Lib.hid hb
        clear hb
        go_wp2
        go_ret2
        exact ⟨HE.out.symm, HB.out⟩
  · have HE : Hid (stT l = .returned (.tuple #[.string ⟨#[]⟩, .bool false])) := by
      unfold Hid stT
      have h1 := HA.out.1
      have : stOk l = false := by
        unfold stOk
        rw [show decide (l.length ≤ 8) = false by simp; omega, Bool.false_and]
      rw [this]
      rfl
    go_enter Try.func14, Try.ntmps14
    go_wp2
    go_ret2
    exact ⟨HE.out.symm, Below.refl _ _⟩
end Go.Proofs.Ytbkacmklgkgamaa

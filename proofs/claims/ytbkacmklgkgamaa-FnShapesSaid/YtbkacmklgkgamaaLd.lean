/- Plain law (no program): the bytes of a shape have one reading. Conditions: none. -/
import Derived.Test.YtbkacmklgkgamaaUm
namespace Go.Proofs.Ytbkacmklgkgamaa
open Go.RowKit

theorem nums_extract (s : ByteArray) (a b : Nat) : nums (s.extract a b) = ((nums s).drop a).take (b - a) := by
  unfold nums
  rw [← List.map_drop, ← List.map_take]
  congr 1
  simp [ByteArray.data_extract, List.extract_eq_take_drop]

theorem packF_inj : ∀ (f : Nat) (l m : List Bool) (full : Bool) (f' : Nat), left_ l full ≤ f → left_ m full ≤ f' → packF f l full = packF f' m full → l = m := by
  have two : ∀ (l : List Bool) (full : Bool), l ≠ [] → 2 ≤ left_ l full := fun l full h => by
    have : 1 ≤ l.length := by
      cases l with
      | nil => exact absurd rfl h
      | cons a b => simp
    unfold left_; split <;> omega
  intro f
  induction f with
  | zero =>
    intro l m full f' h1 h2 h
    have hl : l = [] := by
      cases l with
      | nil => rfl
      | cons a b => have := two (a :: b) full (by simp); omega
    subst hl
    cases m with
    | nil => rfl
    | cons a b =>
      have := two (a :: b) full (by simp)
      obtain ⟨g, rfl⟩ : ∃ g, f' = g + 1 := ⟨f' - 1, by omega⟩
      rw [packF_nil, packF_step (by simp)] at h
      have := List.append_eq_nil_iff.1 h.symm
      exact absurd this.1 (emit_ne _)
  | succ f ih =>
    intro l m full f' h1 h2 h
    by_cases hl : l = []
    · subst hl
      cases m with
      | nil => rfl
      | cons a b =>
        have := two (a :: b) full (by simp)
        obtain ⟨g, rfl⟩ : ∃ g, f' = g + 1 := ⟨f' - 1, by omega⟩
        rw [packF_nil, packF_step (by simp)] at h
        have := List.append_eq_nil_iff.1 h.symm
        exact absurd this.1 (emit_ne _)
    · by_cases hm : m = []
      · subst hm
        rw [packF_nil, packF_step hl] at h
        have := List.append_eq_nil_iff.1 h
        exact absurd this.1 (emit_ne _)
      · have t2 := two m full hm
        obtain ⟨g, rfl⟩ : ∃ g, f' = g + 1 := ⟨f' - 1, by omega⟩
        rw [packF_step hl, packF_step hm] at h
        have s1 := left_step (full := full) hl
        have s2 := left_step (full := full) hm
        have k1 := take_run (l := l) (k := 0) (full := full) (Nat.zero_le _)
        have k2 := take_run (l := m) (k := 0) (full := full) (Nat.zero_le _)
        simp only [List.drop_zero, Nat.zero_add, List.take_zero, List.nil_append] at k1 k2
        have key : runOf full l = runOf full m ∧ packF f (l.drop (runOf full l)) (!full) = packF g (m.drop (runOf full m)) (!full) := by
          unfold emit at h
          split at h <;> split at h
          · simp at h
            exact h
          · simp at h; omega
          · simp at h; omega
          · simp at h
            exact ⟨by omega, h.2⟩
        obtain ⟨e1, e2⟩ := key
        have e3 := ih _ _ _ g (by omega) (by omega) e2
        have e4 : l.take (runOf full l) = m.take (runOf full m) := by rw [← k1, ← k2, e1]
        rw [← List.take_append_drop (runOf full l) l, ← List.take_append_drop (runOf full m) m, e4, e3]
theorem pack_inj {l m : List Bool} (h : pack l = pack m) : l = m := packF_inj _ l m false _ (left_pack l) (left_pack m) h

/-- A valid shape's parts. -/
def OkC (nm : ByteArray) (W H : Nat) (cs : List Bool) : Prop := okSh nm (W : Int) (H : Int) cs.length = true
theorem okC_parts {nm : ByteArray} {W H : Nat} {cs : List Bool} (h : OkC nm W H cs) : nm.size ≤ 8 ∧ W ≤ 16 ∧ H ≤ 16 ∧ cs.length ≤ 256 := by
  obtain ⟨W', H', h1, h2, h3, h4, h5, h6, _⟩ := ok_parts (s := ⟨nm, W, H, none, 0, cs⟩) h
  simp only at h1 h2 h5 h6
  have e1 : W = W' := Int.ofNat.inj h1
  have e2 : H = H' := Int.ofNat.inj h2
  exact ⟨h5, by omega, by omega, h6⟩

/-- What the bytes say, read from the left: the parts of a shape that s begins with. -/
structure Parsed (s : List Nat) (nm : ByteArray) (W H : Nat) (cs : List Bool) : Prop where
  len : 11 + nm.size + (pack cs).length ≤ s.length
  name : s[4]? = some nm.size
  nums : (s.drop 5).take nm.size = Go.Proofs.Ytbkacmklgkgamaa.nums nm
  wide : s[5 + nm.size]? = some W
  high : s[5 + nm.size + 1]? = some H
  lo : s[5 + nm.size + 2]? = some ((pack cs).length % 256)
  hi : s[5 + nm.size + 3]? = some ((pack cs).length / 256)
  cells : (s.drop (9 + nm.size)).take (pack cs).length = pack cs
theorem parsed {s : List Nat} {nm : ByteArray} {W H : Nat} {cs : List Bool} {r : List Nat} (h : s = wholeL nm W H cs ++ r) : Parsed s nm W H cs := by
  have hl := wholeL_len nm W H cs
  have e : s = [83, 72, 80, 49, nm.size] ++ (nums nm ++ ([W, H, (pack cs).length % 256, (pack cs).length / 256] ++ (pack cs ++ ([chkL (bodyL nm W H cs) % 256, chkL (bodyL nm W H cs) / 256] ++ r)))) := by
    rw [h]
    unfold wholeL bodyL
    simp only [List.append_assoc]
  have d5 : s.drop 5 = nums nm ++ ([W, H, (pack cs).length % 256, (pack cs).length / 256] ++ (pack cs ++ ([chkL (bodyL nm W H cs) % 256, chkL (bodyL nm W H cs) / 256] ++ r))) := by
    rw [e]
    exact List.drop_left' rfl
  have dn : s.drop (5 + nm.size) = [W, H, (pack cs).length % 256, (pack cs).length / 256] ++ (pack cs ++ ([chkL (bodyL nm W H cs) % 256, chkL (bodyL nm W H cs) / 256] ++ r)) := by
    rw [← List.drop_drop, d5]
    exact List.drop_left' (nums_len nm)
  have d9 : s.drop (9 + nm.size) = pack cs ++ ([chkL (bodyL nm W H cs) % 256, chkL (bodyL nm W H cs) / 256] ++ r) := by
    rw [show 9 + nm.size = 5 + nm.size + 4 from by omega, ← List.drop_drop, dn]
    exact List.drop_left' rfl
  have at_ : ∀ j v, ([W, H, (pack cs).length % 256, (pack cs).length / 256] : List Nat)[j]? = some v → s[5 + nm.size + j]? = some v := fun j v hv => by
    have hj := (List.getElem?_eq_some_iff.1 hv).1
    rw [← List.getElem?_drop, dn, List.getElem?_append_left hj]
    exact hv
  refine ⟨by rw [h, List.length_append, hl]; omega, by rw [e]; rfl, by rw [d5]; exact List.take_left' (nums_len nm), at_ 0 _ rfl, at_ 1 _ rfl, at_ 2 _ rfl, at_ 3 _ rfl, by rw [d9]; exact List.take_left' rfl⟩
theorem wholeL_inj {nm nm' : ByteArray} {W H W' H' : Nat} {cs cs' : List Bool} {r r' : List Nat} (h : wholeL nm W H cs ++ r = wholeL nm' W' H' cs' ++ r') : nm = nm' ∧ W = W' ∧ H = H' ∧ cs = cs' := by
  have p := parsed (s := wholeL nm W H cs ++ r) rfl
  have q := parsed (s := wholeL nm W H cs ++ r) h
  have e0 : nm.size = nm'.size := by have := p.name.symm.trans q.name; injection this
  have e1 : nums nm = nums nm' := by rw [← p.nums, ← q.nums, e0]
  have e2 : nm = nm' := by rw [← txt_nums nm, ← txt_nums nm', e1]
  subst e2
  have e3 : W = W' := by have := p.wide.symm.trans q.wide; injection this
  have e4 : H = H' := by have := p.high.symm.trans q.high; injection this
  have e5 : (pack cs).length % 256 = (pack cs').length % 256 := by have := p.lo.symm.trans q.lo; injection this
  have e6 : (pack cs).length / 256 = (pack cs').length / 256 := by have := p.hi.symm.trans q.hi; injection this
  have e7 : (pack cs).length = (pack cs').length := by omega
  have e8 : pack cs = pack cs' := by rw [← p.cells, ← q.cells, e7]
  exact ⟨rfl, e3, e4, pack_inj e8⟩

/-- How many bytes the shape has with which s begins; 0 if s is too short for one. -/
def longL (s : List Nat) : Nat :=
  if s.length < 5 then 0 else
  if s.length < 5 + s.getD 4 0 + 4 then 0 else
  if s.length < 5 + s.getD 4 0 + 6 + s.getD (5 + s.getD 4 0 + 2) 0 + 256 * s.getD (5 + s.getD 4 0 + 3) 0 then 0 else
  5 + s.getD 4 0 + 6 + s.getD (5 + s.getD 4 0 + 2) 0 + 256 * s.getD (5 + s.getD 4 0 + 3) 0
theorem longL_parsed {s : List Nat} {nm : ByteArray} {W H : Nat} {cs : List Bool} (p : Parsed s nm W H cs) : longL s = 11 + nm.size + (pack cs).length := by
  have h := p.len
  have g4 : s.getD 4 0 = nm.size := by rw [List.getD_eq_getElem?_getD, p.name]; rfl
  have g2 : s.getD (5 + nm.size + 2) 0 = (pack cs).length % 256 := by rw [List.getD_eq_getElem?_getD, p.lo]; rfl
  have g3 : s.getD (5 + nm.size + 3) 0 = (pack cs).length / 256 := by rw [List.getD_eq_getElem?_getD, p.hi]; rfl
  unfold longL
  rw [g4, g2, g3, if_neg (by omega), if_neg (by omega), if_neg (by omega)]
  omega
/-- A shape as it was read. -/
structure Rdd where
  nm : ByteArray
  W : Nat
  H : Nat
  cs : List Bool
def Rdd.whole (x : Rdd) : List Nat := wholeL x.nm x.W x.H x.cs
def Rdd.ok (x : Rdd) : Prop := OkC x.nm x.W x.H x.cs
/-- What loading a text gives. -/
def Lod (s : List Nat) : Option Rdd → Prop
  | some x => x.ok ∧ x.whole = s
  | none => ∀ x : Rdd, x.ok → x.whole ≠ s
/-- What loading the beginning of a text gives. -/
def LodP (s : List Nat) : Option (Rdd × Nat) → Prop
  | some (x, n) => x.ok ∧ n ≤ s.length ∧ x.whole = s.take n
  | none => ∀ x : Rdd, x.ok → ∀ r, x.whole ++ r ≠ s
theorem rdd_inj {x y : Rdd} {r r' : List Nat} (h : x.whole ++ r = y.whole ++ r') : x = y := by
  obtain ⟨a, b, c, d⟩ := x
  obtain ⟨a', b', c', d'⟩ := y
  obtain ⟨rfl, rfl, rfl, rfl⟩ := wholeL_inj h
  rfl
theorem lod_uniq {s : List Nat} {a b : Option Rdd} (ha : Lod s a) (hb : Lod s b) : a = b := by
  cases a with
  | none =>
    cases b with
    | none => rfl
    | some y => exact absurd hb.2 (ha y hb.1)
  | some x =>
    cases b with
    | none => exact absurd ha.2 (hb x ha.1)
    | some y =>
      have : x.whole ++ [] = y.whole ++ [] := by rw [ha.2, hb.2]
      rw [rdd_inj this]
theorem lodP_uniq {s : List Nat} {a b : Option (Rdd × Nat)} (ha : LodP s a) (hb : LodP s b) : a = b := by
  have split : ∀ (x : Rdd) (n : Nat), x.whole = s.take n → x.whole ++ s.drop n = s := fun x n h => by rw [h, List.take_append_drop]
  cases a with
  | none =>
    cases b with
    | none => rfl
    | some y => exact absurd (split y.1 y.2 hb.2.2) (ha y.1 hb.1 _)
  | some x =>
    cases b with
    | none => exact absurd (split x.1 x.2 ha.2.2) (hb x.1 ha.1 _)
    | some y =>
      obtain ⟨x, n⟩ := x
      obtain ⟨y, m⟩ := y
      have e : x = y := rdd_inj ((split x n ha.2.2).trans (split y m hb.2.2).symm)
      subst e
      have e2 : n = m := by
        have h1 := congrArg List.length ha.2.2
        have h2 := congrArg List.length hb.2.2
        rw [List.length_take] at h1 h2
        have := ha.2.1
        have := hb.2.1
        omega
      rw [e2]
/-- From the beginning of a text to the whole text. -/
theorem lodP_lod {s : List Nat} {a : Option (Rdd × Nat)} (ha : LodP s a) : Lod s (match a with | some (x, n) => if n = s.length then some x else none | none => none) := by
  cases a with
  | none => exact fun x hx he => ha x hx [] (by rw [List.append_nil]; exact he)
  | some x =>
    obtain ⟨x, n⟩ := x
    simp only
    by_cases hn : n = s.length
    · rw [if_pos hn]
      exact ⟨ha.1, by rw [ha.2.2, hn, List.take_length]⟩
    · rw [if_neg hn]
      intro y hy he
      have e : x.whole ++ s.drop n = y.whole ++ [] := by rw [ha.2.2, List.take_append_drop, List.append_nil, he]
      have e2 := rdd_inj e
      subst e2
      have h1 := congrArg List.length ha.2.2
      have h2 := congrArg List.length he
      rw [List.length_take] at h1
      have := ha.2.1
      omega
/-- From the whole of the text that 'long' cuts off to the beginning of a text. -/
theorem lod_lodP {s : List Nat} {a : Option Rdd} (h0 : longL s ≠ 0) (ha : Lod (s.take (longL s)) a) : LodP s (a.map fun x => (x, longL s)) := by
  have hle : longL s ≤ s.length := by
    unfold longL at h0 ⊢
    split
    · omega
    · split
      · omega
      · split
        · omega
        · omega
  cases a with
  | none =>
    intro x hx r he
    have p := parsed he.symm
    have hl := longL_parsed p
    refine ha x hx ?_
    rw [hl, ← he, List.take_left' (by unfold Rdd.whole; rw [wholeL_len])]
  | some x => exact ⟨ha.1, hle, ha.2⟩
theorem long_none {s : List Nat} (h0 : longL s = 0) : LodP s none := fun x _ r he => by
  have := longL_parsed (parsed he.symm)
  omega
end Go.Proofs.Ytbkacmklgkgamaa

/- Plain law (no program): a grammar's text is read alike by the reference and by the program. Conditions: none. -/
import Derived.Test.YthgdikdcbkhgjaaDoorDu
import Derived.Test.YthgdikdcbkhgjaaDoorGx
import Derived.Lib.CutLaws
namespace Go.Proofs.YthgdikdcbkhgjaaDoor
open Go.RowKit

/-- The pieces of a list between marks. -/
def cutL (c : UInt8) : List UInt8 → List (List UInt8)
  | [] => [[]]
  | b :: l => if b = c then [] :: cutL c l else
    match cutL c l with
    | [] => [[b]]
    | x :: r => (b :: x) :: r
theorem cutL_ne (c : UInt8) : ∀ l, cutL c l ≠ []
  | [] => by simp [cutL]
  | b :: l => by
    unfold cutL
    split
    · simp
    · split <;> simp
theorem cutL_no {c : UInt8} : ∀ {l : List UInt8}, c ∉ l → cutL c l = [l]
  | [], _ => rfl
  | b :: l, h => by
    rw [List.mem_cons, not_or] at h
    unfold cutL
    rw [if_neg (fun e => h.1 e.symm), cutL_no h.2]
theorem cutL_app {c : UInt8} : ∀ {x : List UInt8} (l : List UInt8), c ∉ x → cutL c (x ++ c :: l) = x :: cutL c l
  | [], l, _ => by simp [cutL]
  | b :: x, l, h => by
    rw [List.mem_cons, not_or] at h
    show cutL c (b :: (x ++ c :: l)) = _
    rw [cutL, if_neg (fun e => h.1 e.symm), cutL_app l h.2]
theorem cutL_mem {c : UInt8} : ∀ {l x : List UInt8}, x ∈ cutL c l → c ∉ x
  | [], x, h => by
    simp [cutL] at h
    subst h
    simp
  | b :: l, x, h => by
    unfold cutL at h
    split at h
    · rw [List.mem_cons] at h
      rcases h with rfl | h
      · simp
      · exact cutL_mem h
    · rename_i hb
      split at h
      · rename_i e
        exact absurd e (cutL_ne c l)
      · rename_i y r e
        rw [List.mem_cons] at h
        rcases h with rfl | h
        · rw [List.mem_cons, not_or]
          exact ⟨fun e => hb e.symm, cutL_mem (l := l) (by rw [e]; simp)⟩
        · exact cutL_mem (l := l) (by rw [e]; simp [h])
theorem join_two (x y : List UInt8) (r : List (List UInt8)) (sep : List UInt8) : Lib.join (x :: y :: r) sep = x ++ (sep ++ Lib.join (y :: r) sep) := by
  simp [Lib.join, List.intercalate]
theorem cutL_join (c : UInt8) : ∀ l, Lib.join (cutL c l) [c] = l
  | [] => rfl
  | b :: l => by
    have ih := cutL_join c l
    unfold cutL
    split
    · rename_i hb
      cases e : cutL c l with
      | nil => exact absurd e (cutL_ne c l)
      | cons y r =>
        rw [join_two, ← e, ih, hb]
        rfl
    · split
      · rename_i e
        exact absurd e (cutL_ne c l)
      · rename_i y r e
        rw [e] at ih
        cases r with
        | nil =>
          rw [Lib.join_one] at ih ⊢
          rw [ih]
        | cons z r =>
          rw [join_two] at ih ⊢
          rw [← ih]
          rfl
theorem cutL_of_join {c : UInt8} : ∀ {X : List (List UInt8)}, X ≠ [] → (∀ x ∈ X, c ∉ x) → cutL c (Lib.join X [c]) = X
  | [], h, _ => absurd rfl h
  | [x], _, h => by rw [Lib.join_one, cutL_no (h x (by simp))]
  | x :: y :: r, _, h => by
    rw [join_two]
    show cutL c (x ++ c :: Lib.join (y :: r) [c]) = _
    rw [cutL_app _ (h x (by simp)), cutL_of_join (X := y :: r) (by simp) (fun z hz => h z (by simp [hz]))]
theorem not_mem_get {c : UInt8} {l : List UInt8} (h : ∀ k : Nat, l[k]? ≠ some c) : c ∉ l := fun hm => by
  obtain ⟨k, hk⟩ := List.getElem?_of_mem hm
  exact h k hk
theorem splitK_cut (c : UInt8) : ∀ (n : Nat) (l : List UInt8), l.length ≤ n → Lib.splitK [c] 0 (Lib.count l [c]) l = cutL c l := by
  intro n
  induction n with
  | zero =>
    intro l h
    obtain rfl : l = [] := List.eq_nil_of_length_eq_zero (by omega)
    rfl
  | succ n ih =>
    intro l h
    have hge := Lib.indexByte_ge l c
    by_cases e : Lib.indexByte l c = -1
    · rw [cutL_no (not_mem_get (Lib.indexByte_none e))]
      rw [Lib.count_miss (by rw [Lib.index_one]; exact e)]
      rfl
    · obtain ⟨i, hi⟩ : ∃ i : Nat, Lib.indexByte l c = i := ⟨(Lib.indexByte l c).toNat, by omega⟩
      have hx : Lib.index l [c] = i := by rw [Lib.index_one]; exact hi
      obtain ⟨h1, h2⟩ := Lib.indexByte_some hi
      have hl := (List.getElem?_eq_some_iff.1 h1)
      have hsplit : l = l.take i ++ c :: l.drop (i + 1) := by
        conv => lhs; rw [← List.take_append_drop i l, List.drop_eq_getElem_cons hl.1, hl.2]
      have hno : c ∉ l.take i := not_mem_get fun k hk => by
        have hk' := (List.getElem?_eq_some_iff.1 hk).1
        rw [List.length_take] at hk'
        rw [List.getElem?_take_of_lt (by omega)] at hk
        exact h2 k (by omega) hk
      rw [Lib.count_hit (by simp) hx, Nat.add_comm]
      show Lib.splitK [c] 0 (_ + 1) l = _
      unfold Lib.splitK
      rw [if_neg (by rw [hx, beq_iff_eq]; omega), hx]
      have e1 : ((i : Int).toNat + 0) = i := by omega
      have e2 : ((i : Int).toNat + [c].length) = i + 1 := by simp
      have e3 : i + [c].length = i + 1 := rfl
      rw [e1, e2, e3, ih _ (by rw [List.length_drop]; omega)]
      conv => rhs; rw [hsplit, cutL_app _ hno]
def mkB_ (l : List UInt8) : ByteArray := ⟨l.toArray⟩
theorem mkB_data (s : ByteArray) : mkB_ s.data.toList = s := rfl
theorem data_mkB (l : List UInt8) : (mkB_ l).data.toList = l := rfl
theorem parts_cut (c : UInt8) (s : ByteArray) : partsC c s = (cutL c s.data.toList).map mkB_ := by
  have h := Lib.splitB_data (sepC c) 0 (Lib.countB s (sepC c)) s
  have h2 : Lib.splitK (sepC c).data.toList 0 (Lib.countB s (sepC c)) s.data.toList = cutL c s.data.toList := splitK_cut c _ _ (Nat.le_refl _)
  rw [h2] at h
  rw [← h, List.map_map]
  unfold partsC
  conv => lhs; rw [← List.map_id (Lib.splitB _ _ _ _)]
  exact List.map_congr_left fun x _ => (mkB_data x).symm
theorem parts_two {c : UInt8} {s a b : ByteArray} (h : partsC c s = [a, b]) : s.data.toList = a.data.toList ++ c :: b.data.toList ∧ c ∉ a.data.toList ∧ c ∉ b.data.toList := by
  rw [parts_cut] at h
  have hj := cutL_join c s.data.toList
  have hm := @cutL_mem c s.data.toList
  cases e : cutL c s.data.toList with
  | nil => exact absurd e (cutL_ne _ _)
  | cons x r =>
    rw [e] at h hj hm
    cases r with
    | nil => simp at h
    | cons y r =>
      cases r with
      | cons z r => simp at h
      | nil =>
        simp only [List.map_cons, List.map_nil, List.cons.injEq, and_true] at h
        obtain ⟨rfl, rfl⟩ := h
        rw [join_two, Lib.join_one] at hj
        exact ⟨hj.symm, hm (x := x) (by simp), hm (x := y) (by simp)⟩
theorem parts_of_two {c : UInt8} {s a b : ByteArray} (h : s.data.toList = a.data.toList ++ c :: b.data.toList) (ha : c ∉ a.data.toList) (hb : c ∉ b.data.toList) : partsC c s = [a, b] := by
  rw [parts_cut, h, cutL_app _ ha, cutL_no hb]
  rfl
/-- The text ahead of a mark and the text behind it. -/
def cut1 (c : UInt8) (s : ByteArray) : ByteArray × ByteArray := (⟨(Lib.cut s.data.toList [c]).1.toArray⟩, ⟨(Lib.cut s.data.toList [c]).2.1.toArray⟩)
theorem cut1_of {c : UInt8} {s a b : ByteArray} (h : s.data.toList = a.data.toList ++ c :: b.data.toList) (ha : c ∉ a.data.toList) : cut1 c s = (a, b) := by
  have hi : Lib.index s.data.toList [c] = (a.data.toList.length : Nat) := by
    rw [Lib.index_one, h]
    have hg := Lib.indexByte_ge (a.data.toList ++ c :: b.data.toList) c
    have h1 : (a.data.toList ++ c :: b.data.toList)[a.data.toList.length]? = some c := by simp
    have h2 : ∀ j, j < a.data.toList.length → (a.data.toList ++ c :: b.data.toList)[j]? ≠ some c := fun j hj e => by
      rw [List.getElem?_append_left hj] at e
      exact ha (List.mem_of_getElem? e)
    by_cases e : Lib.indexByte (a.data.toList ++ c :: b.data.toList) c = -1
    · exact absurd h1 (Lib.indexByte_none e _)
    · obtain ⟨o, ho⟩ : ∃ o : Nat, Lib.indexByte (a.data.toList ++ c :: b.data.toList) c = o := ⟨(Lib.indexByte (a.data.toList ++ c :: b.data.toList) c).toNat, by omega⟩
      obtain ⟨q1, q2⟩ := Lib.indexByte_some ho
      rw [ho]
      have : ¬ o < a.data.toList.length := fun hlt => h2 o hlt q1
      have : ¬ a.data.toList.length < o := fun hlt => q2 _ hlt h1
      congr 1
      omega
  unfold cut1 Lib.cut
  rw [hi, if_pos (by omega), h]
  simp
  have hd : List.drop (a.size + 1) (a.data.toList ++ c :: b.data.toList) = b.data.toList := by
    have e1 : a.size + 1 = a.data.toList.length + 1 := by rw [Array.length_toList]; rfl
    rw [e1, ← List.drop_drop, List.drop_left]
    rfl
  rw [hd]
def noneT : ByteArray := ⟨#[110, 111, 110, 101]⟩
def two (x : ByteArray) : Option (ByteArray × ByteArray) :=
  match partsC 61 x with
  | [a, b] => some (a, b)
  | _ => none
theorem two_some {x : ByteArray} {p : ByteArray × ByteArray} (h : two x = some p) : partsC 61 x = [p.1, p.2] := by
  unfold two at h
  split at h
  · rename_i a b e
    injection h with h
    subst h
    exact e
  · cases h
theorem two_of {x a b : ByteArray} (h : partsC 61 x = [a, b]) : two x = some (a, b) := by unfold two; rw [h]
theorem two_no {x : ByteArray} (h : (partsC 61 x).length ≠ 2) : two x = none := by
  unfold two
  split
  · rename_i e
    rw [e] at h
    exact absurd rfl h
  · rfl
def SpecOk (t a : ByteArray) (rs : List (ByteArray × ByteArray)) : Prop :=
  ∃ r, partsC 59 t = [a, r] ∧ ((r = noneT ∧ rs = []) ∨ (r ≠ noneT ∧ (partsC 47 r).map two = rs.map some)) ∧ validG a rs = true
def ImplOk (t a : ByteArray) (rs : List (ByteArray × ByteArray)) : Prop :=
  ∃ r, cut1 59 t = (a, r) ∧ ((r = noneT ∧ rs = []) ∨ (r ≠ noneT ∧ rs = (partsC 47 r).map (cut1 61))) ∧ validG a rs = true ∧ gtext a rs = t.data.toList
theorem wordB_mem {s : ByteArray} {m : Nat} (h : wordB s m = true) {b : UInt8} (hb : b ∈ s.data.toList) : okN b.toNat = true := by
  unfold wordB at h
  rw [Bool.and_eq_true] at h
  have h2 := h.2
  unfold okTo at h2
  rw [List.take_of_length_le (by rw [Array.length_toList]; exact Nat.le_refl _), List.all_eq_true] at h2
  exact h2 b hb
theorem okN_not {b : UInt8} (h : okN b.toNat = true) : b ≠ 59 ∧ b ≠ 47 ∧ b ≠ 61 := by
  refine ⟨?_, ?_, ?_⟩ <;> (rintro rfl; revert h; decide)
theorem wordB_no {s : ByteArray} {m : Nat} (h : wordB s m = true) : 59 ∉ s.data.toList ∧ 47 ∉ s.data.toList ∧ 61 ∉ s.data.toList :=
  ⟨fun hb => (okN_not (wordB_mem h hb)).1 rfl, fun hb => (okN_not (wordB_mem h hb)).2.1 rfl, fun hb => (okN_not (wordB_mem h hb)).2.2 rfl⟩
theorem rule_parts {l t : ByteArray} (h : ruleB l t = true) : (∃ b : UInt8, l.data.toList = [b] ∧ letterN b.toNat = true) ∧ wordB t 32 = true := by
  unfold ruleB at h
  simp only [Bool.and_eq_true, decide_eq_true_eq] at h
  obtain ⟨⟨h1, h2⟩, h3⟩ := h
  refine ⟨?_, h3⟩
  have hl : l.data.toList.length = 1 := by rw [Array.length_toList]; exact h1
  obtain ⟨b, hb⟩ := List.length_eq_one_iff.1 hl
  rw [hb] at h2
  exact ⟨b, hb, h2⟩
theorem letter_not {b : UInt8} (h : letterN b.toNat = true) : b ≠ 59 ∧ b ≠ 47 ∧ b ≠ 61 ∧ b ≠ 110 := by
  refine ⟨?_, ?_, ?_, ?_⟩ <;> (rintro rfl; revert h; decide)
theorem valid_parts {a : ByteArray} {rs : List (ByteArray × ByteArray)} (h : validG a rs = true) : wordB a 32 = true ∧ rs.length ≤ 8 ∧ ∀ p ∈ rs, ruleB p.1 p.2 = true := by
  unfold validG at h
  simp only [Bool.and_eq_true, decide_eq_true_eq] at h
  obtain ⟨⟨h1, h2⟩, h3⟩ := h
  refine ⟨h1, h2, fun p hp => ?_⟩
  obtain ⟨k, hk⟩ := List.getElem?_of_mem hp
  have hlt := (List.getElem?_eq_some_iff.1 hk).1
  cases hr : ruleB p.1 p.2 with
  | true => rfl
  | false =>
    have := okRules_no (okRule_bad hk hr) hlt
    rw [this] at h3
    cases h3
theorem spec_impl {t a : ByteArray} {rs : List (ByteArray × ByteArray)} (h : SpecOk t a rs) : ImplOk t a rs := by
  obtain ⟨r, h1, h2, h3⟩ := h
  obtain ⟨e1, e2, _⟩ := parts_two h1
  refine ⟨r, cut1_of e1 e2, ?_⟩
  rcases h2 with ⟨rfl, rfl⟩ | ⟨hr, hm⟩
  · exact ⟨.inl ⟨rfl, rfl⟩, h3, by rw [e1]; rfl⟩
  · have hx : ∀ x ∈ partsC 47 r, ∃ p, two x = some p ∧ cut1 61 x = p ∧ piece p = x.data.toList := fun x hx => by
      have : two x ∈ (partsC 47 r).map two := List.mem_map_of_mem hx
      rw [hm] at this
      obtain ⟨p, _, hp⟩ := List.mem_map.1 this
      obtain ⟨q1, q2, _⟩ := parts_two (two_some hp.symm)
      exact ⟨p, hp.symm, cut1_of q1 q2, by rw [q1]; simp [piece]⟩
    have hrs : rs = (partsC 47 r).map (cut1 61) := by
      have e : (partsC 47 r).map two = ((partsC 47 r).map (cut1 61)).map some := by
        rw [List.map_map]
        exact List.map_congr_left fun x hx' => by
          obtain ⟨p, q1, q2, _⟩ := hx x hx'
          rw [q1]
          show some p = some (cut1 61 x)
          rw [q2]
      rw [hm] at e
      exact (List.map_inj_right (fun _ _ h => by injection h)).1 e
    refine ⟨.inr ⟨hr, hrs⟩, h3, ?_⟩
    have hne : rs.length ≠ 0 := by
      rw [hrs, List.length_map, parts_cut, List.length_map]
      exact fun e => cutL_ne _ _ (List.eq_nil_of_length_eq_zero e)
    have hp : rs.map piece = cutL 47 r.data.toList := by
      rw [hrs, List.map_map]
      have e : (partsC 47 r).map (·.data.toList) = cutL 47 r.data.toList := by rw [parts_cut, List.map_map]; exact List.map_id _
      rw [← e]
      exact List.map_congr_left fun x hx' => by
        obtain ⟨p, _, q2, q3⟩ := hx x hx'
        show piece (cut1 61 x) = _
        rw [q2, q3]
    unfold gtext tail_
    rw [if_neg hne, List.take_length, hp, cutL_join, e1]
    rfl
theorem impl_spec {t a : ByteArray} {rs : List (ByteArray × ByteArray)} (h : ImplOk t a rs) : SpecOk t a rs := by
  obtain ⟨r, h1, h2, h3, h4⟩ := h
  obtain ⟨v1, v2, v3⟩ := valid_parts h3
  have ha := (wordB_no v1).1
  rcases h2 with ⟨rfl, rfl⟩ | ⟨hr, hrs⟩
  · have e : t.data.toList = a.data.toList ++ 59 :: noneT.data.toList := by rw [← h4]; rfl
    exact ⟨noneT, parts_of_two e ha (by decide), .inl ⟨rfl, rfl⟩, h3⟩
  · have hne : rs.length ≠ 0 := by
      rw [hrs, List.length_map, parts_cut, List.length_map]
      exact fun e => cutL_ne _ _ (List.eq_nil_of_length_eq_zero e)
    have hpc : ∀ x ∈ rs.map piece, 59 ∉ x ∧ 47 ∉ x := fun x hx => by
      obtain ⟨p, hp, rfl⟩ := List.mem_map.1 hx
      obtain ⟨⟨b, hb, hbl⟩, hw⟩ := rule_parts (v3 p hp)
      have n1 := letter_not hbl
      have n2 := wordB_no hw
      unfold piece
      rw [hb]
      simp only [List.mem_append, List.mem_singleton, not_or]
      exact ⟨⟨⟨fun e => n1.1 e.symm, by decide⟩, n2.1⟩, ⟨⟨fun e => n1.2.1 e.symm, by decide⟩, n2.2.1⟩⟩
    obtain ⟨R, eR⟩ : ∃ R : ByteArray, R.data.toList = Lib.join (rs.map piece) [47] := ⟨mkB_ (Lib.join (rs.map piece) [47]), rfl⟩
    have e : t.data.toList = a.data.toList ++ 59 :: R.data.toList := by
      rw [← h4, eR]
      unfold gtext tail_
      rw [if_neg hne, List.take_length]
      rfl
    have hrR : r = R := by
      have := cut1_of e ha
      rw [h1] at this
      injection this
    subst hrR
    have hpne : rs.map piece ≠ [] := fun e => hne (by rw [← List.length_map (f := piece), e]; rfl)
    have hno : 59 ∉ r.data.toList := by
      rw [eR]
      have key : ∀ X : List (List UInt8), (∀ x ∈ X, 59 ∉ x) → 59 ∉ Lib.join X [47] := by
        intro X
        induction X with
        | nil => intro _; simp [Lib.join, List.intercalate]
        | cons x X ih =>
          intro hX
          cases X with
          | nil => rw [Lib.join_one]; exact hX x (by simp)
          | cons y X =>
            rw [join_two]
            simp only [List.mem_append, List.mem_singleton, not_or]
            exact ⟨hX x (by simp), by decide, ih (fun z hz => hX z (by simp [hz]))⟩
      exact key _ fun x hx => (hpc x hx).1
    have hparts : partsC 47 r = (rs.map piece).map mkB_ := by
      rw [parts_cut, eR, cutL_of_join hpne (fun x hx => (hpc x hx).2)]
    refine ⟨r, parts_of_two e ha hno, .inr ⟨hr, ?_⟩, h3⟩
    rw [hparts, List.map_map, List.map_map]
    refine List.map_congr_left fun p hp => ?_
    obtain ⟨⟨b, hb, hbl⟩, hw⟩ := rule_parts (v3 p hp)
    have n1 := letter_not hbl
    have n2 := wordB_no hw
    show two (mkB_ (piece p)) = some p
    exact two_of (parts_of_two (a := p.1) (b := p.2) (by rw [data_mkB]; simp [piece]) (by rw [hb]; simp; exact fun e => n1.2.2.1 e.symm) n2.2.2)
theorem implOk_uniq {t a a' : ByteArray} {rs rs' : List (ByteArray × ByteArray)} (h : ImplOk t a rs) (h' : ImplOk t a' rs') : a = a' ∧ rs = rs' := by
  obtain ⟨r, h1, h2, _⟩ := h
  obtain ⟨r', h1', h2', _⟩ := h'
  rw [h1] at h1'
  injection h1' with e1 e2
  subst e1 e2
  refine ⟨rfl, ?_⟩
  rcases h2 with ⟨q1, q2⟩ | ⟨q1, q2⟩ <;> rcases h2' with ⟨q1', q2'⟩ | ⟨q1', q2'⟩
  · rw [q2, q2']
  · exact absurd q1 q1'
  · exact absurd q1' q1
  · rw [q2, q2']
end Go.Proofs.YthgdikdcbkhgjaaDoor

/- Walks: the longest journal that a text begins with, by the reference and by the program. Conditions: texts are at most 2^20 bytes long; the library's own size variable and its powers of ten hold what the program lays. -/
import Derived.Test.YthgdikdcbkhgjaaDoorCx
import Derived.Test.YthgdikdcbkhgjaaDoorCk
import Derived.Lib.CutLaws
import Derived.Lib.AppendIntMem
import Derived.Deep.RegionHeld3
namespace Go.Proofs.YthgdikdcbkhgjaaDoor
open Go.RowKit

/-- One line of a journal: what it holds, and the check number behind it. -/
def stepJ (c : Nat) (x : ByteArray) : Option (ByteArray × Nat) :=
  if Lib.indexByte x.data.toList 32 = -1 then none
  else if x.extract 0 (Lib.indexByte x.data.toList 32).toNat = dec (chk c (x.extract ((Lib.indexByte x.data.toList 32).toNat + 1) x.size).data.toList) then
    some (x.extract ((Lib.indexByte x.data.toList 32).toNat + 1) x.size, chk c (x.extract ((Lib.indexByte x.data.toList 32).toNat + 1) x.size).data.toList)
  else none
/-- The longest journal that lines begin with, and its length. -/
def jrec : Nat → List ByteArray → List ByteArray × Nat
  | _, [] => ([], 0)
  | c, x :: l =>
    match stepJ c x with
    | none => ([], 0)
    | some (y, c') => (y :: (jrec c' l).1, x.size + 1 + (jrec c' l).2)
theorem jrec_none {c : Nat} {x : ByteArray} {l : List ByteArray} (h : stepJ c x = none) : jrec c (x :: l) = ([], 0) := by simp [jrec, h]
theorem jrec_some {c c' : Nat} {x y : ByteArray} {l : List ByteArray} (h : stepJ c x = some (y, c')) : jrec c (x :: l) = (y :: (jrec c' l).1, x.size + 1 + (jrec c' l).2) := by simp [jrec, h]
theorem idxb_at {l : List UInt8} {i : Nat} {c : UInt8} (hi : l[i]? = some c) (h : ∀ j, j < i → l[j]? ≠ some c) : Lib.indexByte l c = i := by
  have := Lib.indexByte_ge l c
  by_cases e : Lib.indexByte l c = -1
  · exact absurd hi (Lib.indexByte_none e i)
  · obtain ⟨o, ho⟩ : ∃ o : Nat, Lib.indexByte l c = o := ⟨(Lib.indexByte l c).toNat, by omega⟩
    obtain ⟨h1, h2⟩ := Lib.indexByte_some ho
    rw [ho]
    have : ¬ o < i := fun hlt => h o hlt h1
    have : ¬ i < o := fun hlt => h2 i hlt hi
    congr 1
    omega
theorem idxb_no {l : List UInt8} {c : UInt8} (h : ∀ j, j < l.length → l[j]? ≠ some c) : Lib.indexByte l c = -1 := by
  have := Lib.indexByte_ge l c
  by_cases e : Lib.indexByte l c = -1
  · exact e
  · obtain ⟨o, ho⟩ : ∃ o : Nat, Lib.indexByte l c = o := ⟨(Lib.indexByte l c).toNat, by omega⟩
    obtain ⟨h1, _⟩ := Lib.indexByte_some ho
    exact absurd h1 (h o (List.getElem?_eq_some_iff.1 h1).1)
theorem stepJ_no {c : Nat} {x : ByteArray} (h : Lib.indexByte x.data.toList 32 = -1) : stepJ c x = none := by unfold stepJ; rw [if_pos h]
theorem stepJ_ne {c k : Nat} {x : ByteArray} (h : Lib.indexByte x.data.toList 32 = k) (hd : x.extract 0 k ≠ dec (chk c (x.extract (k + 1) x.size).data.toList)) : stepJ c x = none := by
  unfold stepJ
  rw [if_neg (by omega), h, Int.toNat_natCast, if_neg hd]
theorem stepJ_eq {c k : Nat} {x : ByteArray} (h : Lib.indexByte x.data.toList 32 = k) (hd : x.extract 0 k = dec (chk c (x.extract (k + 1) x.size).data.toList)) :
    stepJ c x = some (x.extract (k + 1) x.size, chk c (x.extract (k + 1) x.size).data.toList) := by
  unfold stepJ
  rw [if_neg (by omega), h, Int.toNat_natCast, if_pos hd]
theorem split_sizes (sep : ByteArray) : ∀ (k : Nat) (s x : ByteArray), x ∈ Lib.splitB sep 0 k s → x.size ≤ s.size
  | 0, s, x, h => by
    rw [Lib.splitB_zero] at h
    simp at h
    subst h
    exact Nat.le_refl _
  | k + 1, s, x, h => by
    unfold Lib.splitB at h
    split at h
    · simp at h
      subst h
      exact Nat.le_refl _
    · rw [List.mem_cons] at h
      rcases h with h | h
      · subst h
        simp
        omega
      · have := split_sizes sep k _ x h
        simp at this
        omega
theorem line_size {s x : ByteArray} (h : x ∈ linesB s) : x.size ≤ s.size := split_sizes _ _ _ _ (List.mem_of_mem_take (show x ∈ (partsB s).take _ from h))
def jL (s : ByteArray) : List ByteArray := (jrec 0 (linesB s)).1
def jN (s : ByteArray) : Nat := (jrec 0 (linesB s)).2
/-- A journal that has been read up to here, and the lines that are left. -/
def jAt (s : ByteArray) (out : List ByteArray) (n c : Nat) (l : List ByteArray) : Prop := out ++ (jrec c l).1 = jL s ∧ n + (jrec c l).2 = jN s
theorem jAt_stop {s : ByteArray} {out : List ByteArray} {n c : Nat} {l : List ByteArray} (h : jAt s out n c l) (hl : jrec c l = ([], 0)) : out = jL s ∧ n = jN s := by
  obtain ⟨h1, h2⟩ := h
  rw [hl] at h1 h2
  exact ⟨by simpa using h1, by simpa using h2⟩
theorem jAt_step {s x y : ByteArray} {out : List ByteArray} {n c c' : Nat} {l : List ByteArray} (h : jAt s out n c (x :: l)) (hs : stepJ c x = some (y, c')) : jAt s (out ++ [y]) (n + x.size + 1) c' l := by
  obtain ⟨h1, h2⟩ := h
  rw [jrec_some hs] at h1 h2
  exact ⟨by rw [← h1]; simp, by rw [← h2]; show n + x.size + 1 + _ = n + (x.size + 1 + _); omega⟩
def JOut (s : ByteArray) (w : World) (e : Ending) (w' : World) : Prop :=
  ∃ A c, e = .returned (.tuple #[.slice A (jL s).length c, .int .i64 ((jN s : Nat) : Int)]) ∧ w'.ownsRow w.heap.size 9 1 (.slice A (jL s).length c) (jL s).length ((jL s).map Value.string) ∧ Below w.heap.size w w'
theorem byteFact {x : ByteArray} {k : Nat} (h : k < x.size) : x.data.toList[k]? = some x[k] := by
  rw [List.getElem?_eq_getElem (by simpa using h)]
  rfl
set_option maxRecDepth 100000 in
set_option maxHeartbeats 8000000 in
theorem l08Recover_any (s : ByteArray) (w : World) (hs : s.size ≤ 1048576) : Calls Tryd.prog 40 #[.string s] w (JOut s w) := by
  have LC := Lib.hid (l08Lines_any s w hs)
  have HSZ := Lib.hid (fun (x : ByteArray) (h : x ∈ linesB s) => line_size h)
  have hnl : (linesB s).length ≤ 1048577 := by rw [lines_len]; have := parts_le s; omega
  obtain ⟨n, en⟩ : ∃ n, (linesB s).length = n := ⟨_, rfl⟩
  unfold LnR at LC
  rw [en] at LC hnl
  have EN := Lib.hid en
  clear en
  go_enter Tryd.func40, Tryd.ntmps40
  go_wp2_with fail
  refine LC.out.mono ?_
  rintro e w1 ⟨A, cl, rfl, hR, hb⟩
  have HR := Lib.hid hR
  have HB := Lib.hid hb
  have hz1 := hb.size
  clear hR hb
  go_wp2
  go_loopw [6, 7, 8, 9] (fun so sc sn si wr => ∃ (i m c : Nat) (out : List ByteArray) (Al : Option Addr) (cc : Nat), so = .slice Al out.length cc ∧ sc = .int .i64 (c : Int) ∧ sn = .int .i64 (m : Int) ∧ si = .int .i64 (i : Int) ∧ i ≤ n ∧ out.length ≤ i ∧ m ≤ i * 1048578 ∧ c < 65003 ∧
    Hid (jAt s out m c ((linesB s).drop i)) ∧ Hid (wr.ownsRow w1.heap.size 9 1 (.slice Al out.length cc) out.length (out.map Value.string)) ∧ Below w1.heap.size w1 wr) (fun _ _ _ si _ => n - (intOf si).toNat)
  case atStart => exact ⟨0, 0, 0, [], some ⟨w1.heap.size, 0, none⟩, 0, rfl, rfl, rfl, rfl, Nat.zero_le _, Nat.le_refl _, by omega, by omega, ⟨rfl, Nat.zero_add _⟩, (Blk.new w1 _ _).own (n := 0) (size := 1) (Nat.le_refl _) rfl (by unfold maxLen; omega), (Below.refl _ _).alloc (Nat.le_refl _) _⟩
  case round =>
    obtain ⟨i, m, c, out, Al, cc, rfl, rfl, rfl, rfl, hi, hol, hm, hc, HJ, HO, hb1⟩ := hrel
    have HB1 := Lib.hid hb1
    have hz2 := hb1.size
    clear hb1
    by_cases hlt : i < n
    · obtain ⟨x, hx⟩ : ∃ x, (linesB s)[i]? = some x := ⟨_, List.getElem?_eq_getElem (by rw [EN.out]; exact hlt)⟩
      have hdrop : (linesB s).drop i = x :: (linesB s).drop (i + 1) := by
        rw [List.drop_eq_getElem_cons (by rw [EN.out]; exact hlt)]
        have := List.getElem?_eq_some_iff.1 hx
        rw [this.2]
      rw [hdrop] at HJ
      have hxs := HSZ.out x (List.mem_of_getElem? hx)
      obtain ⟨b, off, rfl, hbb, hcell⟩ := HR.out.2 (by omega)
      have QX : Hid (∀ w', Below w1.heap.size w1 w' → w'.cell? ⟨b, off + i, none⟩ = some (.string x)) := fun w' h => (h.cell (p := ⟨b, off + i, none⟩) hbb).trans (hcell _ _ (by rw [List.getElem?_map, hx]; rfl))
      have cX := QX.out wr HB1.out
      have hin : (i : Int) < (n : Int) := by omega
      clear hcell hx hdrop
      go_wp2
      go_loop [10] (fun sk => ∃ k : Nat, k ≤ x.size ∧ sk = .int .i64 (k : Int) ∧ Hid (∀ j, j < k → x.data.toList[j]? ≠ some 32)) (fun sk => x.size - (intOf sk).toNat)
      case atStart => exact ⟨0, Nat.zero_le _, rfl, fun j hj => absurd hj (by omega)⟩
      case round =>
        obtain ⟨k, hk, rfl, HK⟩ := hrel
        by_cases hkx : k < x.size
        · have hbf := byteFact hkx
          have hx8 : x[k].toNat ≤ 255 := by have := x[k].toNat_lt; omega
          obtain ⟨b8, eb⟩ : ∃ b8 : Nat, x[k].toNat = b8 := ⟨_, rfl⟩
          rw [eb] at hx8
          have hki : (k : Int) < (x.size : Int) := by omega
          by_cases h32 : b8 = 32
          · have hc32 : x.data.toList[k]? = some 32 := by
              rw [hbf]
              congr 1
              apply UInt8.toNat_inj.1
              rw [eb, h32]
              rfl
            have hidx := idxb_at hc32 (fun j hj => HK.out j hj)
            have hne := @stepJ_ne c k x hidx
            have heq := @stepJ_eq c k x hidx
            obtain ⟨y, hy⟩ : ∃ y, x.extract (k + 1) x.size = y := ⟨_, rfl⟩
            obtain ⟨a, ha⟩ : ∃ a, x.extract 0 k = a := ⟨_, rfl⟩
            rw [hy, ha] at hne heq
            have hys : y.size ≤ 1048576 := by rw [← hy]; simp only [ByteArray.size_extract]; omega
            have hc' := chk_lt hc y.data.toList
            have CC := l01Check_any c y wr (by unfold maxLen; omega) hc
            obtain ⟨c', ec⟩ : ∃ c', chk c y.data.toList = c' := ⟨_, rfl⟩
            rw [ec] at hc' CC hne heq
            have CCH := Lib.hid CC
            have DC := Lib.hid (l01Dec_any c' wr.drew (by omega))
            obtain ⟨d, hd⟩ : ∃ d, dec c' = d := ⟨_, rfl⟩
            rw [hd] at DC hne heq
            have HNE := Lib.hid hne
            have HEQ := Lib.hid heq
            have hkne : ((k : Int) == (x.size : Int)) = false := by rw [beq_eq_false_iff_ne]; omega
            have hk1 : (0 : Int) ≤ (k : Int) + 1 ∧ (k : Int) + 1 ≤ (x.size : Int) := by omega
            subst h32
            clear hbf hc32 hidx hne heq CC ec hd
            by_cases had : a = d
            · subst had
              have HST := Lib.hid (jAt_step HJ.out (HEQ.out rfl))
              have hcmp : (!(a.toList == a.toList)) = false := by simp
              go_wp2_with fail
              refine CCH.out.mono ?_
              rintro e w5 ⟨rfl, h5⟩
              obtain rfl := h5.symm
              go_wp2
              go_region_held3 (fun w' => w'.cell? ⟨b, off + i, none⟩ = some (.string x) ∧ Below wr.heap.size wr w')
                (first | exact ⟨QX.out _ HB1.out.drew, (Below.refl _ _).drew⟩ | exact ⟨QX.out _ (HB1.out.drew.trans (hb1.mono hz2)), (Below.refl _ _).drew.trans hb1⟩)
                (first | (go_at_call 52; refine DC.out.mono ?_; rintro e w6 ⟨rfl, hb1⟩))
              obtain ⟨-, hb2⟩ := ‹_ ∧ Below wr.heap.size wr w6›
              have O6 := Lib.hid (own_below HO.out hb2)
              have B6 := Lib.hid (HB1.out.trans (hb2.mono hz2))
              have hsz6 := B6.out.size
              have hm3 : m ≤ 1099600000000 := by omega
              clear hb1 hb2
              go_wp2_with (at_builtin; refine wpList_append_one (W := w6) rfl _ _ _ rfl w1.heap.size 9 (.string ⟨#[]⟩) 16 Tryd.underlying32 strInfo rfl Al out.length cc _ rfl O6.out (.string y) _ rfl rfl rfl (by unfold maxLen; omega) (by omega) hsz6 ?_; intro A3 c3 w3 ho3 hg3 hd3; have B3 := Lib.hid (B6.out.grown hg3 hsz6 (fun j e => (O6.out.lt j e).1)); have cX3 := QX.out w3 B3.out)
              go_roundw
              case rel => exact ⟨i + 1, m + x.size + 1, c', out ++ [y], A3, c3, by rw [List.length_append, List.length_singleton], rfl, by go_num, by go_num, by omega, by rw [List.length_append, List.length_singleton]; omega, by omega, hc', HST.out, by rw [List.length_append, List.length_singleton, List.map_append]; exact ho3, B3.out⟩
              case measure => simp [intOf]; omega
            · have HN : Hid (out = jL s ∧ m = jN s) := jAt_stop HJ.out (jrec_none (HNE.out had))
              have hcmp : (!(a.toList == d.toList)) = true := by rw [str_ne had]; rfl
              clear had
              go_wp2_with fail
              refine CCH.out.mono ?_
              rintro e w5 ⟨rfl, h5⟩
              obtain rfl := h5.symm
              go_wp2
              go_region_held3 (fun w' => w'.cell? ⟨b, off + i, none⟩ = some (.string x) ∧ Below wr.heap.size wr w')
                (first | exact ⟨QX.out _ HB1.out.drew, (Below.refl _ _).drew⟩ | exact ⟨QX.out _ (HB1.out.drew.trans (hb1.mono hz2)), (Below.refl _ _).drew.trans hb1⟩)
                (first | (go_at_call 52; refine DC.out.mono ?_; rintro e w6 ⟨rfl, hb1⟩))
              obtain ⟨-, hb2⟩ := ‹_ ∧ Below wr.heap.size wr w6›
              have O6 := Lib.hid (own_below HO.out hb2)
              have B6 := Lib.hid (HB1.out.trans (hb2.mono hz2))
              clear hb1 hb2
              go_wp2
              go_ret2
              exact ⟨Al, cc, by rw [← HN.out.1, ← HN.out.2]; rfl, by rw [← HN.out.1]; exact own_base O6.out hz1, HB.out.trans (B6.out.mono hz1)⟩
          · have hc32 : x.data.toList[k]? ≠ some 32 := by
              rw [hbf]
              intro e
              injection e with e
              rw [e] at eb
              exact h32 eb.symm
            have HC := Lib.hid hc32
            have hb32 : ((b8 : Int) == 32) = false := by rw [beq_eq_false_iff_ne]; omega
            clear hbf hc32
            go_wp2
            go_round
            case rel =>
              refine ⟨k + 1, by omega, by go_num, fun j hj => ?_⟩
              by_cases e : j = k
              · rw [e]; exact HC.out
              · exact HK.out j (by omega)
            case measure => simp [intOf]; omega
        · obtain rfl : k = x.size := by omega
          have HN : Hid (out = jL s ∧ m = jN s) := jAt_stop HJ.out (jrec_none (stepJ_no (idxb_no fun j hj => HK.out j (by simpa using hj))))
          have hkk : ((x.size : Int) == (x.size : Int)) = true := by simp
          go_wp2
          go_ret2
          exact ⟨Al, cc, by rw [← HN.out.1, ← HN.out.2]; rfl, by rw [← HN.out.1]; exact own_base HO.out hz1, HB.out.trans (HB1.out.mono hz1)⟩
    · obtain rfl : i = n := by omega
      have hJ := HJ.out
      rw [List.drop_eq_nil_of_le (by rw [EN.out]; exact Nat.le_refl _)] at hJ
      have HN : Hid (out = jL s ∧ m = jN s) := jAt_stop hJ rfl
      clear hJ
      go_wp2
      go_ret2
      exact ⟨Al, cc, by rw [← HN.out.1, ← HN.out.2]; rfl, by rw [← HN.out.1]; exact own_base HO.out hz1, HB.out.trans (HB1.out.mono hz1)⟩
/-- The lines of what is left of a text. -/
theorem left_none {s : ByteArray} {p : Nat} (h : Lib.indexByte (s.extract p s.size).data.toList 10 = -1) : linesB (s.extract p s.size) = [] := by
  unfold linesB
  rw [parts_end (f := p) fun j h1 h2 => ?_]
  · rfl
  · have := Lib.indexByte_none h (j - p)
    rwa [ext_get _ _ _ _ (by omega), show p + (j - p) = j from by omega] at this
theorem left_hit {s : ByteArray} {p o : Nat} (hp : p ≤ s.size) (h : Lib.indexByte (s.extract p s.size).data.toList 10 = o) : p + o < s.size ∧ linesB (s.extract p s.size) = s.extract p (p + o) :: linesB (s.extract (p + o + 1) s.size) := by
  obtain ⟨h1, h2⟩ := Lib.indexByte_some h
  have hl := (List.getElem?_eq_some_iff.1 h1).1
  rw [ext_data, List.length_take] at hl
  refine ⟨by omega, ?_⟩
  rw [ext_get _ _ _ _ (by omega)] at h1
  unfold linesB
  rw [parts_hit (f := p) (i := p + o) (by omega) (by omega) h1 fun j h3 h4 => ?_]
  · have := parts_ne (s.extract (p + o + 1) s.size)
    rw [List.length_cons, Nat.add_sub_cancel]
    obtain ⟨m, hm⟩ : ∃ m, (partsB (s.extract (p + o + 1) s.size)).length = m + 1 := ⟨_, (Nat.sub_add_cancel this).symm⟩
    rw [hm]
    rfl
  · have := h2 (j - p) (by omega)
    rwa [ext_get _ _ _ _ (by omega), show p + (j - p) = j from by omega] at this
set_option maxRecDepth 100000 in
set_option maxHeartbeats 8000000 in
theorem recovered_any (s : ByteArray) (w : World) (hs : s.size ≤ 1048576) (m0 : Int) (hm : w.cell? ⟨0, 0, none⟩ = some (.int .i64 m0)) (htab : Lib.TabIs Tryd.prog w "internal/strconv.uint64pow10" .u64 Lib.pow10Tab) :
    Calls Tryd.prog 41 #[.string s] w (JOut s w) := by
  have hlt0 := World.block_lt_of_cell? w _ hm
  have KM := Lib.hid (fun w1 (hb : Below w.heap.size w w1) => (hb.cell hlt0).trans hm)
  have KT := Lib.hid (Lib.tabBelow_of_tabIs htab)
  clear hm htab hlt0
  go_enter Tryd.func41, Tryd.ntmps41
  go_wp2
  go_loopw [4, 5, 6] (fun so sc sp wr => ∃ (p c : Nat) (out : List ByteArray) (Al : Option Addr) (cc : Nat), so = .slice Al out.length cc ∧ sc = .int .i64 (c : Int) ∧ sp = .int .i64 (p : Int) ∧ p ≤ s.size ∧ out.length ≤ p ∧ c < 65003 ∧
    Hid (jAt s out p c (linesB (s.extract p s.size))) ∧ Hid (wr.ownsRow w.heap.size 9 1 (.slice Al out.length cc) out.length (out.map Value.string)) ∧ Below w.heap.size w wr) (fun _ _ sp _ => s.size - (intOf sp).toNat)
  case atStart => exact ⟨0, 0, [], some ⟨w.heap.size, 0, none⟩, 0, rfl, rfl, rfl, Nat.zero_le _, Nat.le_refl _, by omega, by unfold Hid linesB; rw [parts_all]; exact ⟨rfl, Nat.zero_add _⟩, (Blk.new w _ _).own (n := 0) (size := 1) (Nat.le_refl _) rfl (by unfold maxLen; omega), (Below.refl _ _).alloc (Nat.le_refl _) _⟩
  case round =>
    obtain ⟨p, c, out, Al, cc, rfl, rfl, rfl, hp, hol, hc, HJ, HO, hb⟩ := hrel
    have HB := Lib.hid hb
    have hsz := hb.size
    clear hb
    obtain ⟨t, ht⟩ : ∃ t, s.extract p s.size = t := ⟨_, rfl⟩
    have IB := Tryd.strings_IndexByte t 10 wr
    have hge := Lib.indexByte_ge t.data.toList 10
    have hnone := @left_none s p
    have hhit := fun o => @left_hit s p o hp
    rw [ht] at hnone hhit
    have hpi : (0 : Int) ≤ (p : Int) ∧ (p : Int) ≤ (s.size : Int) := by omega
    have e10 : ((10 : Int).toNat.toUInt8) = 10 := rfl
    rw [e10] at IB
    by_cases h10 : Lib.indexByte t.data.toList 10 = -1
    · have HN : Hid (out = jL s ∧ p = jN s) := by
        have hJ := HJ.out
        rw [ht, hnone h10] at hJ
        exact jAt_stop hJ rfl
      rw [h10] at IB
      have IBH := Lib.hid IB
      clear IB hnone hhit hge h10 e10
      go_wp2_with fail
      refine IBH.out.mono ?_
      rintro e w5 ⟨rfl, h5⟩
      obtain rfl := h5.symm
      go_wp2
      go_ret2
      exact ⟨Al, cc, by rw [← HN.out.1, ← HN.out.2]; rfl, by rw [← HN.out.1]; exact HO.out, HB.out⟩
    · obtain ⟨o, ho⟩ : ∃ o : Nat, Lib.indexByte t.data.toList 10 = o := ⟨(Lib.indexByte t.data.toList 10).toNat, by omega⟩
      obtain ⟨hpo, hln⟩ := hhit o ho
      rw [ht, hln] at HJ
      rw [ho] at IB
      have IBH := Lib.hid IB
      obtain ⟨x, hx⟩ : ∃ x, s.extract p (p + o) = x := ⟨_, rfl⟩
      rw [hx] at HJ
      have hxs : x.size = o := by rw [← hx]; simp; omega
      have hxs2 : x.size ≤ 1048576 := by omega
      clear IB hnone hhit hge h10 e10 ho hln
      have hge2 := Lib.indexByte_ge x.data.toList 32
      have hone : Lib.indexB x ⟨#[32]⟩ = Lib.indexByte x.data.toList 32 := Lib.index_one _ _
      have hpo1 : (0 : Int) ≤ (p : Int) ∧ (p : Int) ≤ (p : Int) + (o : Int) ∧ (p : Int) + (o : Int) ≤ (s.size : Int) := by omega
      have CUT := fun (wq : World) (hq : Below w.heap.size w wq) => Tryd.strings_Cut x ⟨#[32]⟩ m0 wq (by omega) (KM.out wq hq)
      by_cases hsp : Lib.indexByte x.data.toList 32 = -1
      · obtain ⟨c1, c2, c3⟩ := Lib.cutB_miss x ⟨#[32]⟩ (by rw [hone]; exact hsp)
        rw [c1, c2, c3] at CUT
        have CC := Lib.hid (CUT wr HB.out)
        have HN : Hid (out = jL s ∧ p = jN s) := jAt_stop HJ.out (jrec_none (stepJ_no hsp))
        have CK := Lib.hid (fun wq => CheckOf_any c ByteArray.empty wq (by decide) hc)
        clear CUT c1 c2 c3 hsp hone hge2
        go_wp2_with fail
        refine IBH.out.mono ?_
        rintro e w5 ⟨rfl, h5⟩
        obtain rfl := h5.symm
        go_wp2_with fail
        refine CC.out.mono ?_
        rintro e w6 ⟨rfl, d6, h6⟩
        have B6 : Hid (Below w.heap.size w w6) := by rw [h6]; exact below_drewN' HB.out _
        have O6 : Hid (w6.ownsRow w.heap.size 9 1 (.slice Al out.length cc) out.length (out.map Value.string)) := by rw [h6]; exact HO.out
        clear h6
        go_wp2_with fail
        refine (CK.out _).mono ?_
        rintro e w7 ⟨rfl, h7⟩
        obtain rfl := h7.symm
        go_wp2
        go_ret2
        exact ⟨Al, cc, by rw [← HN.out.1, ← HN.out.2]; rfl, by rw [← HN.out.1]; exact O6.out, B6.out⟩
      · obtain ⟨k, hk⟩ : ∃ k : Nat, Lib.indexByte x.data.toList 32 = k := ⟨(Lib.indexByte x.data.toList 32).toNat, by omega⟩
        obtain ⟨c1, c2, c3⟩ := Lib.cutB_hit x ⟨#[32]⟩ k (by rw [hone]; exact hk)
        have e1 : (⟨#[32]⟩ : ByteArray).size = 1 := rfl
        rw [e1] at c2
        rw [c1, c2, c3] at CUT
        have hne := @stepJ_ne c k x hk
        have heq := @stepJ_eq c k x hk
        obtain ⟨y, hy⟩ : ∃ y, x.extract (k + 1) x.size = y := ⟨_, rfl⟩
        obtain ⟨a, ha⟩ : ∃ a, x.extract 0 k = a := ⟨_, rfl⟩
        rw [hy, ha] at CUT
        rw [hy, ha] at hne heq
        have hys : y.size ≤ 1048576 := by rw [← hy]; simp only [ByteArray.size_extract]; omega
        have hc' := chk_lt hc y.data.toList
        have CK := fun wq => CheckOf_any c y wq (by unfold maxLen; omega) hc
        obtain ⟨c', ec⟩ : ∃ c', chk c y.data.toList = c' := ⟨_, rfl⟩
        rw [ec] at hc' hne heq
        have CKH := Lib.hid (fun wq => by have := CK wq; rw [ec] at this; exact this)
        have DC := fun wq (hq : Below w.heap.size w wq) => Decimal_any c' wq (by omega) (KT.out wq hq)
        obtain ⟨d, hd⟩ : ∃ d, dec c' = d := ⟨_, rfl⟩
        rw [hd] at DC hne heq
        have DCH := Lib.hid DC
        have HNE := Lib.hid hne
        have HEQ := Lib.hid heq
        have CC := Lib.hid (CUT wr HB.out)
        clear CUT c1 c2 c3 hsp hone hge2 e1 hne heq CK ec DC hd hk hy ha
        by_cases had : a = d
        · subst had
          have HST := Lib.hid (jAt_step HJ.out (HEQ.out rfl))
          have hcmp : (!(a.toList == a.toList)) = false := by simp
          go_wp2_with fail
          refine IBH.out.mono ?_
          rintro e w5 ⟨rfl, h5⟩
          obtain rfl := h5.symm
          go_wp2_with fail
          refine CC.out.mono ?_
          rintro e w6 ⟨rfl, d6, h6⟩
          have B6 : Hid (Below w.heap.size w w6) := by rw [h6]; exact below_drewN' HB.out _
          have O6 : Hid (w6.ownsRow w.heap.size 9 1 (.slice Al out.length cc) out.length (out.map Value.string)) := by rw [h6]; exact HO.out
          clear h6
          go_wp2_with fail
          refine (CKH.out _).mono ?_
          rintro e w7 ⟨rfl, h7⟩
          obtain rfl := h7.symm
          go_wp2_with fail
          refine (DCH.out _ B6.out).mono ?_
          rintro e w8 ⟨rfl, hb8⟩
          have B8 := Lib.hid (B6.out.trans (hb8.mono B6.out.size))
          have O8 := Lib.hid (own_below O6.out hb8)
          have hsz8 := B8.out.size
          clear hb8
          go_wp2_with (at_builtin; refine wpList_append_one (W := w8) rfl _ _ _ rfl w.heap.size 9 (.string ⟨#[]⟩) 16 Tryd.underlying32 strInfo rfl Al out.length cc _ rfl O8.out (.string y) _ rfl rfl rfl (by unfold maxLen; omega) (by omega) hsz8 ?_; intro A3 c3 w3 ho3 hg3 hd3; have B3 := Lib.hid (B8.out.grown hg3 hsz8 (fun j e => (O8.out.lt j e).1)))
          go_roundw
          case rel => exact ⟨p + o + 1, c', out ++ [y], A3, c3, by rw [List.length_append, List.length_singleton], rfl, by go_num, by omega, by rw [List.length_append, List.length_singleton]; omega, hc', by have := HST.out; rw [hxs] at this; exact this, by rw [List.length_append, List.length_singleton, List.map_append]; exact ho3, B3.out⟩
          case measure => simp [intOf]; omega
        · have HN : Hid (out = jL s ∧ p = jN s) := jAt_stop HJ.out (jrec_none (HNE.out had))
          have hcmp : (!(a.toList == d.toList)) = true := by rw [str_ne had]; rfl
          clear had
          go_wp2_with fail
          refine IBH.out.mono ?_
          rintro e w5 ⟨rfl, h5⟩
          obtain rfl := h5.symm
          go_wp2_with fail
          refine CC.out.mono ?_
          rintro e w6 ⟨rfl, d6, h6⟩
          have B6 : Hid (Below w.heap.size w w6) := by rw [h6]; exact below_drewN' HB.out _
          have O6 : Hid (w6.ownsRow w.heap.size 9 1 (.slice Al out.length cc) out.length (out.map Value.string)) := by rw [h6]; exact HO.out
          clear h6
          go_wp2_with fail
          refine (CKH.out _).mono ?_
          rintro e w7 ⟨rfl, h7⟩
          obtain rfl := h7.symm
          go_wp2_with fail
          refine (DCH.out _ B6.out).mono ?_
          rintro e w8 ⟨rfl, hb8⟩
          have B8 := Lib.hid (B6.out.trans (hb8.mono B6.out.size))
          have O8 := Lib.hid (own_below O6.out hb8)
          have hsz8 := B8.out.size
          clear hb8
          go_wp2
          go_ret2
          exact ⟨Al, cc, by rw [← HN.out.1, ← HN.out.2]; rfl, by rw [← HN.out.1]; exact O8.out, B8.out⟩
end Go.Proofs.YthgdikdcbkhgjaaDoor

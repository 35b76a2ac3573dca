/- Plain law and walks: the journal of lines, by the reference. Conditions: the journal is shorter than 10^8 bytes. -/
import Derived.Test.YthgdikdcbkhgjaaDoorCk
import Derived.Lib.ItoaLen
import Derived.StillTailTactics
import Derived.Deep.RegionHeld3
namespace Go.Proofs.YthgdikdcbkhgjaaDoor
open Go.RowKit

/-- One line's part of a journal. -/
def entry (c : Nat) (x : ByteArray) : ByteArray := dec (chk c x.data.toList) ++ ⟨#[32]⟩ ++ x ++ ⟨#[10]⟩
theorem dec_size (n : Nat) (h : n < 65003) : 1 ≤ (dec n).size ∧ (dec n).size ≤ 21 := by
  have h1 : (dec n).size = (Lib.itoa (n : Int)).length := by simp [dec, ByteArray.size]
  have h2 := Lib.itoa_length_le (n : Int) (by omega) (by omega)
  have h3 : (Lib.itoa (n : Int)).length = Lib.nDigits n := by rw [Lib.itoa_nonneg, Lib.decDigits_length]
  have h4 : 1 ≤ (Lib.itoa (n : Int)).length := by
    rw [Lib.itoa_nonneg, Lib.decDigits]
    split <;> simp
  omega
theorem entry_size (c : Nat) (x : ByteArray) (h : c < 65003) : x.size + 3 ≤ (entry c x).size ∧ (entry c x).size ≤ x.size + 23 := by
  have h1 := dec_size _ (chk_lt h x.data.toList)
  unfold entry
  simp only [ByteArray.size_append]
  have e1 : (⟨#[32]⟩ : ByteArray).size = 1 := rfl
  have e2 : (⟨#[10]⟩ : ByteArray).size = 1 := rfl
  omega
/-- The check number behind lines. -/
def cks (c : Nat) (l : List ByteArray) : Nat := l.foldl (fun c x => chk c x.data.toList) c
theorem cks_snoc (c : Nat) (l : List ByteArray) (x : ByteArray) : cks c (l ++ [x]) = chk (cks c l) x.data.toList := by simp [cks]
theorem cks_lt {c : Nat} (h : c < 65003) (l : List ByteArray) : cks c l < 65003 := by
  induction l generalizing c with
  | nil => exact h
  | cons x l ih => exact ih (chk_lt h _)
/-- The journal of lines. -/
def jrn (c : Nat) : List ByteArray → ByteArray
  | [] => ⟨#[]⟩
  | x :: l => entry c x ++ jrn (chk c x.data.toList) l
theorem jrn_app : ∀ (a b : List ByteArray) (c : Nat), jrn c (a ++ b) = jrn c a ++ jrn (cks c a) b
  | [], b, c => by
    show jrn c b = ⟨#[]⟩ ++ jrn c b
    exact (ByteArray.empty_append).symm
  | x :: a, b, c => by
    show entry c x ++ jrn _ (a ++ b) = (entry c x ++ jrn _ a) ++ _
    rw [jrn_app a b, ByteArray.append_assoc]
    rfl
theorem jrn_one (c : Nat) (x : ByteArray) : jrn c [x] = entry c x := by
  show entry c x ++ ⟨#[]⟩ = _
  exact ByteArray.append_empty
theorem jrn_snoc (c : Nat) (l : List ByteArray) (x : ByteArray) : jrn c (l ++ [x]) = jrn c l ++ entry (cks c l) x := by rw [jrn_app, jrn_one]
theorem jrn_take (c : Nat) (l : List ByteArray) (k : Nat) : (jrn c (l.take k)).size ≤ (jrn c l).size := by
  conv => rhs; rw [← List.take_append_drop k l, jrn_app]
  simp
/-- How large lines are, with what a journal needs at least. -/
def tot : List ByteArray → Nat
  | [] => 0
  | x :: l => x.size + 3 + tot l
theorem tot_snoc : ∀ (l : List ByteArray) (x : ByteArray), tot (l ++ [x]) = tot l + x.size + 3
  | [], x => by simp [tot]
  | y :: l, x => by simp [tot, tot_snoc l]; omega
theorem tot_len : ∀ (l : List ByteArray), 3 * l.length ≤ tot l
  | [] => Nat.le_refl _
  | x :: l => by have := tot_len l; simp only [tot, List.length_cons]; omega
theorem tot_le : ∀ (l : List ByteArray) (c : Nat), c < 65003 → tot l ≤ (jrn c l).size ∧ (jrn c l).size ≤ tot l + 20 * l.length
  | [], _, _ => ⟨Nat.le_refl _, Nat.le_refl _⟩
  | x :: l, c, h => by
    have h1 := tot_le l _ (chk_lt h x.data.toList)
    have h2 := entry_size c x h
    simp only [tot, jrn, ByteArray.size_append, List.length_cons]
    omega
def noNl (x : ByteArray) : Prop := ∀ j : Nat, x.data.toList[j]? ≠ some 10
/-- Lines that have a journal. -/
def jok (L : List ByteArray) : Prop := (∀ x ∈ L, noNl x) ∧ (jrn 0 L).size ≤ 16000
def JO (L : List ByteArray) (e : Ending) : Prop :=
  (jok L ∧ e = .returned (.tuple #[.string (jrn 0 L), .bool true])) ∨ (¬ jok L ∧ e = .returned (.tuple #[.string ⟨#[]⟩, .bool false]))
theorem not_jok_nl {L : List ByteArray} {x : ByteArray} (hx : x ∈ L) {j : Nat} (h : x.data.toList[j]? = some 10) : ¬ jok L := fun hj => hj.1 x hx j h
theorem not_jok_len {L : List ByteArray} {k : Nat} (h : 16000 < (jrn 0 (L.take k)).size) : ¬ jok L := fun hj => by
  have := jrn_take 0 L k
  have := hj.2
  omega
theorem byteFact' {x : ByteArray} {k : Nat} (h : k < x.size) : x.data.toList[k]? = some x[k] := by
  rw [List.getElem?_eq_getElem (by simpa using h)]
  rfl
set_option maxRecDepth 100000 in
set_option maxHeartbeats 4000000 in
theorem l08Journal_any (A : Option Addr) (n c : Nat) (L : List ByteArray) (w : World) (hn : n ≤ 1048576) (hj : (jrn 0 L).size ≤ 100000000) (hA : Rd w w.heap.size 1 A n (L.map Value.string)) :
    Calls Tryd.prog 33 #[.slice A n c] w fun e w' => e = .returned (.string (jrn 0 L)) ∧ Below w.heap.size w w' := by
  have hl : L.length = n := by have := hA.1; simpa using this
  have HL := Lib.hid hl
  have HA := Lib.hid hA
  have HJ := Lib.hid (fun k => Nat.le_trans (jrn_take 0 L k) hj)
  clear hl hA hj
  go_enter Tryd.func33, Tryd.ntmps33
  go_wp2
  go_loopw [3, 4, 5] (fun so sn si wr => ∃ (k m : Nat) (o : ByteArray), so = .string o ∧ sn = .int .i64 (m : Int) ∧ si = .int .i64 (k : Int) ∧ k ≤ n ∧ m < 65003 ∧ Hid (o = jrn 0 (L.take k)) ∧ Hid (m = cks 0 (L.take k)) ∧ Below w.heap.size w wr) (fun _ _ si _ => n - (intOf si).toNat)
  case atStart => exact ⟨0, 0, ⟨#[]⟩, rfl, rfl, rfl, Nat.zero_le _, by omega, rfl, rfl, Below.refl _ _⟩
  case round =>
    obtain ⟨k, m, o, rfl, rfl, rfl, hk, hm, HO, HM, hb⟩ := hrel
    have HB := Lib.hid hb
    have hsz := hb.size
    clear hb
    by_cases hlt : k < n
    · obtain ⟨b, off, rfl, hbb, hc⟩ := HA.out.2 (by omega)
      obtain ⟨x, hx⟩ : ∃ x, L[k]? = some x := ⟨_, List.getElem?_eq_getElem (by rw [HL.out]; exact hlt)⟩
      have QX : Hid (∀ w', Below w.heap.size w w' → w'.cell? ⟨b, off + k, none⟩ = some (.string x)) := fun w' h => (h.cell (p := ⟨b, off + k, none⟩) hbb).trans (hc _ _ (by rw [List.getElem?_map, hx]; rfl))
      have cX := QX.out wr HB.out
      have htk : L.take (k + 1) = L.take k ++ [x] := by rw [List.take_add_one, hx]; rfl
      have hos := HJ.out k
      have hos1 := HJ.out (k + 1)
      rw [htk, jrn_snoc, ← HO.out, ← HM.out] at hos1
      rw [← HO.out] at hos
      rw [ByteArray.size_append] at hos1
      have hex := entry_size m x hm
      have hxs : x.size ≤ 100000000 := by omega
      have hm' := chk_lt hm x.data.toList
      have hds := dec_size _ hm'
      have CC := l01Check_any m x wr (by unfold maxLen; omega) hm
      have hEJ : jrn 0 (L.take (k + 1)) = o ++ (dec (chk m x.data.toList) ++ ⟨#[32]⟩ ++ x ++ ⟨#[10]⟩) := by rw [htk, jrn_snoc, ← HO.out, ← HM.out]; rfl
      have hEM : cks 0 (L.take (k + 1)) = chk m x.data.toList := by rw [htk, cks_snoc, ← HM.out]
      obtain ⟨m', em⟩ : ∃ m', chk m x.data.toList = m' := ⟨_, rfl⟩
      rw [em] at hm' hds CC hEJ hEM
      have CCH := Lib.hid CC
      have DC := Lib.hid (l01Dec_any m' wr.drew (by omega))
      obtain ⟨d, ed⟩ : ∃ d, dec m' = d := ⟨_, rfl⟩
      rw [ed] at hds DC hEJ
      have HEJ := Lib.hid hEJ
      have HEM := Lib.hid hEM
      have hki : (k : Int) < (n : Int) := by omega
      have e1 : (⟨#[32]⟩ : ByteArray).size = 1 := rfl
      have e2 : (⟨#[10]⟩ : ByteArray).size = 1 := rfl
      have g1 : ¬ 9223372036854775807 < d.size + 1 := by omega
      have g2 : ¬ 9223372036854775807 < d.size + 1 + x.size := by omega
      have g3 : ¬ 9223372036854775807 < d.size + 1 + x.size + 1 := by omega
      have g4 : ¬ 9223372036854775807 < o.size + (d.size + 1 + x.size + 1) := by omega
      clear hc hx htk hos1 hex CC hEJ hEM em ed
      go_wp2_with fail
      refine CCH.out.mono ?_
      rintro e w5 ⟨rfl, h5⟩
      obtain rfl := h5.symm
      go_wp2
      go_region_held3 (fun w' => w'.cell? ⟨b, off + k, none⟩ = some (.string x) ∧ Below wr.heap.size wr w')
        (first | exact ⟨QX.out _ HB.out.drew, (Below.refl _ _).drew⟩ | exact ⟨QX.out _ (HB.out.drew.trans (hb1.mono hsz)), (Below.refl _ _).drew.trans hb1⟩)
        (first | (go_at_call 52; refine DC.out.mono ?_; rintro e w6 ⟨rfl, hb1⟩))
      obtain ⟨-, hb2⟩ := ‹_ ∧ Below wr.heap.size wr w6›
      have B6 := Lib.hid (HB.out.trans (hb2.mono hsz))
      clear hb1 hb2
      go_wp2
      go_roundw
      case rel => exact ⟨k + 1, m', o ++ (d ++ ⟨#[32]⟩ ++ x ++ ⟨#[10]⟩), rfl, rfl, by go_num, by omega, hm', Lib.hid HEJ.out.symm, Lib.hid HEM.out.symm, B6.out⟩
      case measure => simp [intOf]; omega
    · obtain rfl : k = n := by omega
      have HT : Hid (L.take k = L) := List.take_of_length_le (by rw [HL.out]; exact Nat.le_refl _)
      go_wp2
      go_ret
      exact ⟨by have := HO.out; rw [HT.out] at this; rw [this]; rfl, HB.out⟩
set_option maxRecDepth 100000 in
set_option maxHeartbeats 4000000 in
theorem specJo_any (A : Option Addr) (n c : Nat) (L : List ByteArray) (w : World) (hn : n ≤ 1048576) (hs : ∀ x ∈ L, x.size ≤ 1048576) (hA : Rd w w.heap.size 1 A n (L.map Value.string)) :
    Calls Tryd.prog 15 #[.slice A n c] w fun e w' => JO L e ∧ Below w.heap.size w w' := by
  have hl : L.length = n := by have := hA.1; simpa using this
  have HL := Lib.hid hl
  have HA := Lib.hid hA
  have HS := Lib.hid hs
  clear hl hA hs
  go_enter Tryd.func15, Tryd.ntmps15
  go_wp2
  go_loop [4, 5] (fun st si => ∃ i t : Nat, i ≤ n ∧ st = .int .i64 (t : Int) ∧ si = .int .i64 (i : Int) ∧ t ≤ 16000 ∧ Hid (t = tot (L.take i)) ∧ Hid (∀ x ∈ L.take i, noNl x)) (fun _ si => n - (intOf si).toNat)
  case atStart => exact ⟨0, 0, Nat.zero_le _, rfl, rfl, by omega, rfl, fun x hx => by simp at hx⟩
  case round =>
    obtain ⟨i, t, hi, rfl, rfl, ht, HT, HN⟩ := hrel
    by_cases hlt : i < n
    · obtain ⟨b, off, rfl, hbb, hc⟩ := HA.out.2 (by omega)
      obtain ⟨x, hx⟩ : ∃ x, L[i]? = some x := ⟨_, List.getElem?_eq_getElem (by rw [HL.out]; exact hlt)⟩
      have cX : w.cell? ⟨b, off + i, none⟩ = some (.string x) := hc _ _ (by rw [List.getElem?_map, hx]; rfl)
      have hxm := List.mem_of_getElem? hx
      have hxs := HS.out x hxm
      have HXM := Lib.hid hxm
      have htk : L.take (i + 1) = L.take i ++ [x] := by rw [List.take_add_one, hx]; rfl
      have HTK := Lib.hid htk
      have hin : (i : Int) < (n : Int) := by omega
      have HT1 : Hid (t + x.size + 3 = tot (L.take (i + 1))) := by unfold Hid; rw [htk, tot_snoc, ← HT.out]
      clear hc hx htk hxm
      by_cases hbig : 16000 < t + (x.size + 3)
      · have HNO : Hid (¬ jok L) := not_jok_len (k := i + 1) (by have := (tot_le (L.take (i + 1)) 0 (by omega)).1; have := HT1.out; omega)
        go_wp2
        go_ret2
        exact ⟨.inr ⟨HNO.out, rfl⟩, Below.refl _ _⟩
      · go_wp2
        go_loop [6] (fun sk => ∃ k : Nat, k ≤ x.size ∧ sk = .int .i64 (k : Int) ∧ Hid (∀ j, j < k → x.data.toList[j]? ≠ some 10)) (fun sk => x.size - (intOf sk).toNat)
        case atStart => exact ⟨0, Nat.zero_le _, rfl, fun j hj => absurd hj (by omega)⟩
        case round =>
          obtain ⟨k, hk, rfl, HK⟩ := hrel
          by_cases hkx : k < x.size
          · have hbf := byteFact' hkx
            have hx8 : x[k].toNat ≤ 255 := by have := x[k].toNat_lt; omega
            obtain ⟨b8, eb⟩ : ∃ b8 : Nat, x[k].toNat = b8 := ⟨_, rfl⟩
            rw [eb] at hx8
            by_cases h10 : b8 = 10
            · have hc10 : x.data.toList[k]? = some 10 := by
                rw [hbf]
                congr 1
                apply UInt8.toNat_inj.1
                rw [eb, h10]
                rfl
              have HNO := Lib.hid (not_jok_nl HXM.out hc10)
              subst h10
              clear hbf hc10
              go_wp2
              go_ret2
              exact ⟨.inr ⟨HNO.out, rfl⟩, Below.refl _ _⟩
            · have hc10 : x.data.toList[k]? ≠ some 10 := by
                rw [hbf]
                intro e
                injection e with e
                rw [e] at eb
                exact h10 eb.symm
              have HC := Lib.hid hc10
              have hb10 : ((b8 : Int) == 10) = false := by rw [beq_eq_false_iff_ne]; omega
              clear hbf hc10
              go_wp2
              go_round
              case rel =>
                refine ⟨k + 1, by omega, by go_num, fun j hj => ?_⟩
                by_cases e : j = k
                · rw [e]; exact HC.out
                · exact HK.out j (by omega)
              case measure => simp [intOf]; omega
          · obtain rfl : k = x.size := by omega
            have HNN : Hid (noNl x) := fun j => by
              by_cases hj : j < x.size
              · exact HK.out j hj
              · rw [List.getElem?_eq_none (by simpa using hj)]
                exact fun e => by cases e
            go_wp2
            go_round
            case rel =>
              refine ⟨i + 1, t + x.size + 3, by omega, by go_num, by go_num, by omega, HT1.out, ?_⟩
              unfold Hid
              rw [HTK.out]
              intro y hy
              rw [List.mem_append] at hy
              rcases hy with hy | hy
              · exact HN.out y hy
              · simp at hy; subst hy; exact HNN.out
            case measure => simp [intOf]; omega
    · obtain rfl : i = n := by omega
      have e1 : L.take i = L := List.take_of_length_le (by rw [HL.out]; exact Nat.le_refl _)
      rw [e1] at HT HN
      have ht1 := tot_le L 0 (by omega)
      have ht2 := tot_len L
      rw [← HT.out] at ht1 ht2
      rw [HL.out] at ht1 ht2
      have JC := Lib.hid (l08Journal_any A i c L w hn (by omega) HA.out)
      have HOK : Hid ((jrn 0 L).size ≤ 16000 → jok L) := fun h => ⟨HN.out, h⟩
      have HNO : Hid (16000 < (jrn 0 L).size → ¬ jok L) := fun h hj => by have := hj.2; omega
      have HJO : Hid ((jrn 0 L).size ≤ 16000 → JO L (.returned (.tuple #[.string (jrn 0 L), .bool true]))) := fun h => .inl ⟨HOK.out h, rfl⟩
      have HJN : Hid (16000 < (jrn 0 L).size → JO L (.returned (.tuple #[.string ⟨#[]⟩, .bool false]))) := fun h => .inr ⟨HNO.out h, rfl⟩
      obtain ⟨o, eo⟩ : ∃ o, jrn 0 L = o := ⟨_, rfl⟩
      rw [eo] at JC HJO HJN ht1
      clear e1 eo HOK HNO HT HN
      by_cases h16 : 16000 < o.size
      · go_wp2_with fail
        refine JC.out.mono ?_
        rintro e w1 ⟨rfl, hb⟩
        have HB := Lib.hid hb
        clear hb
        go_wp2
        go_ret2
        exact ⟨HJN.out h16, HB.out⟩
      · have h16' : o.size ≤ 16000 := by omega
        go_wp2_with fail
        refine JC.out.mono ?_
        rintro e w1 ⟨rfl, hb⟩
        have HB := Lib.hid hb
        clear hb
        go_wp2
        go_ret2
        exact ⟨HJO.out h16', HB.out⟩
end Go.Proofs.YthgdikdcbkhgjaaDoor

/- Walks: the cells with given runs, by the program and by the reference. Condition: the text is shorter than 2^63. -/
import Derived.Test.YtlklpfjcnbkhlaaLs
import Derived.Test.YtlklpfjcnbkhlaaRep
namespace Go.Proofs.Ytlklpfjcnbkhlaa
open Go.RowKit

theorem str_ne {a b : ByteArray} (h : a ≠ b) : (a.toList == b.toList) = false := by
  simp only [beq_eq_false_iff_ne, ne_eq, ByteArray.toList_eq]
  exact fun e => h (WideShapes.bytes_inj e)
theorem str_eq (a : ByteArray) : (a.toList == a.toList) = true := by simp
theorem nums_get {s : ByteArray} {k : Nat} (h : k < s.size) : (nums s)[k]? = some s[k].toNat := by
  unfold nums
  rw [List.getElem?_map]
  have h' : k < s.data.toList.length := by simpa using h
  rw [List.getElem?_eq_getElem h']
  rfl
/-- Read so far: every list of cells that has these runs begins so. -/
def Fols (s : ByteArray) (k : Nat) (out : List Bool) (full : Bool) : Prop := ∀ l : List Bool, l.length ≤ 256 → pack l = nums s → Fol (nums s) l k out full
theorem fols_zero (s : ByteArray) : Fols s 0 [] false := fun _ _ h => fol_zero h
theorem fols_one {s : ByteArray} {k : Nat} {out : List Bool} {full : Bool} (h : Fols s k out full) (hk : k < s.size) {b : Nat} (hb : s[k].toNat = b) (h2 : b < 255) : Fols s (k + 1) (out ++ List.replicate b full) (!full) :=
  fun l hl he => (fol_step (h l hl he) (by rw [nums_get hk, hb])).1 h2
theorem fols_two {s : ByteArray} {k : Nat} {out : List Bool} {full : Bool} (h : Fols s k out full) (hk : k < s.size) (hb : s[k].toNat = 255) (hk1 : k + 1 < s.size) {b2 : Nat} (hb2 : s[k + 1].toNat = b2) : Fols s (k + 2) (out ++ List.replicate (255 + b2) full) (!full) :=
  fun l hl he => by
    obtain ⟨_, b', h1, h2⟩ := (fol_step (h l hl he) (by rw [nums_get hk, hb])).2 (Nat.le_refl _)
    rw [nums_get hk1, hb2] at h1
    injection h1 with h1
    subst h1
    exact h2
theorem fols_cut {s : ByteArray} {k : Nat} {out : List Bool} {full : Bool} (h : Fols s k out full) (hk : k < s.size) (hb : s[k].toNat = 255) (hk1 : s.size ≤ k + 1) : ∀ l : List Bool, l.length ≤ 256 → pack l ≠ nums s :=
  fun l hl he => by
    obtain ⟨_, b', h1, h2⟩ := (fol_step (h l hl he) (by rw [nums_get hk, hb])).2 (Nat.le_refl _)
    rw [List.getElem?_eq_none (by rw [nums_len]; exact hk1)] at h1
    cases h1
theorem fols_none {s : ByteArray} {k : Nat} {out : List Bool} {full : Bool} (h : ∀ l : List Bool, l.length ≤ 256 → pack l ≠ nums s) : Fols s k out full := fun l hl he => absurd he (h l hl)
theorem fols_big {s : ByteArray} {k : Nat} {out : List Bool} {full : Bool} (h : Fols s k out full) (hb : 256 < out.length) : Unp (nums s) none := fun l hl he => by
  have := fol_len (h l hl he)
  omega
theorem fols_end {s : ByteArray} {k : Nat} {out : List Bool} {full : Bool} (h : Fols s k out full) (hk : s.size ≤ k) (ho : out.length ≤ 256) : (txt (pack out) = s → Unp (nums s) (some out)) ∧ (txt (pack out) ≠ s → Unp (nums s) none) := by
  have he : ∀ l : List Bool, l.length ≤ 256 → pack l = nums s → l = out := fun l hl hp => fol_end (h l hl hp) (by rw [nums_len]; exact hk)
  have hn : nums (txt (pack out)) = pack out := nums_txt (pack_lt ho)
  constructor
  · intro e
    exact ⟨ho, by rw [← hn, e], he⟩
  · intro e l hl hp
    apply e
    rw [← he l hl hp, hp, txt_nums]
/-- What both unpackings give. -/
def UnpOut (s : ByteArray) (w : World) (e : Ending) (w' : World) : Prop := ∃ r : Option (List Bool), Unp (nums s) r ∧ Below w.heap.size w w' ∧
  ((r = none ∧ e = .returned (.tuple #[.slice none 0 0, .bool false])) ∨ ∃ (o : List Bool) (A : Option Addr) (c : Nat), r = some o ∧ e = .returned (.tuple #[.slice A o.length c, .bool true]) ∧ w'.ownsRow w.heap.size 4 1 (.slice A o.length c) o.length (o.map bv))
theorem rep_snoc (n : Nat) (b : Bool) : List.replicate n b ++ [b] = List.replicate (n + 1) b := by rw [List.replicate_succ']

set_option maxRecDepth 100000 in
set_option maxHeartbeats 4000000 in
theorem l07Unpack_any (s : ByteArray) (w : World) (hs : s.size ≤ maxLen) : Calls Try.prog 42 #[.string s] w (UnpOut s w) := by
  unfold maxLen at hs
  go_enter Try.func42, Try.ntmps42
  go_wp2
  go_loopw [4, 5, 6] (fun so sf sa wr => ∃ (k : Nat) (out : List Bool) (Al : Option Addr) (cl : Nat) (full : Bool), so = .slice Al out.length cl ∧ sf = .bool full ∧ sa = .int .i64 k ∧ k ≤ s.size ∧ out.length ≤ 766 ∧
    Hid (Fols s k out full) ∧ wr.ownsRow w.heap.size 4 1 (.slice Al out.length cl) out.length (out.map bv) ∧ Below w.heap.size w wr) (fun _ _ sa _ => s.size - (intOf sa).toNat)
  case atStart => exact ⟨0, [], some ⟨w.heap.size, 0, none⟩, 0, false, rfl, rfl, rfl, Nat.zero_le _, by simp, fols_zero s, (Blk.new w _ _).own (n := 0) (size := 1) (Nat.le_refl _) rfl (by unfold maxLen; omega), (Below.refl _ _).alloc (Nat.le_refl _) _⟩
  case round =>
    obtain ⟨k, out, Al, cl, full, rfl, rfl, rfl, hk, hol, HF, ho, hb⟩ := hrel
    obtain ⟨wo, hwo⟩ : ∃ x, x = wr := ⟨_, rfl⟩
    subst hwo
    have HO := Lib.hid ho
    have HB := Lib.hid hb
    clear ho hb
    by_cases hlt : k < s.size
    · by_cases h256 : out.length ≤ 256
      · have hdc : decide ((out.length : Int) ≤ 256) = true := by simp; omega
        have hx : s[k].toNat ≤ 255 := by have := s[k].toNat_lt; omega
        obtain ⟨b, eb⟩ : ∃ b : Nat, s[k].toNat = b := ⟨_, rfl⟩
        rw [eb] at hx
        have EB := Lib.hid eb
        by_cases h255 : b = 255
        · subst h255
          by_cases hk1 : k + 1 < s.size
          · have hx2 : s[k + 1].toNat ≤ 255 := by have := s[k + 1].toNat_lt; omega
            obtain ⟨b2, eb2⟩ : ∃ b : Nat, s[k + 1].toNat = b := ⟨_, rfl⟩
            rw [eb2] at hx2
            have hdk : decide ((k : Int) + 1 < (s.size : Int)) = true := by simp; omega
            have FN : Hid (Fols s (k + 2) (out ++ List.replicate (255 + b2) full) (!full)) := fols_two HF.out hlt eb hk1 eb2
            have hcnt : 255 + b2 ≤ 510 := by omega
            obtain ⟨cnt, ec⟩ : ∃ cnt, 255 + b2 = cnt := ⟨_, rfl⟩
            rw [ec] at FN hcnt
            have HEC := Lib.hid ec
            clear ec
            clear HF
            go_wp2
            go_loopw [4, 7] (fun so sr wr => ∃ (r : Nat) (Al : Option Addr) (cl : Nat), sr = .int .i64 r ∧ r ≤ cnt ∧ so = .slice Al (out.length + (cnt - r)) cl ∧ wr.ownsRow w.heap.size 4 1 (.slice Al (out.length + (cnt - r)) cl) (out.length + (cnt - r)) ((out ++ List.replicate (cnt - r) full).map bv) ∧ Below w.heap.size w wr) (fun _ sr _ => (intOf sr).toNat)
            case atStart => exact ⟨cnt, Al, cl, by first | rfl | (rw [← HEC.out]; done) | (rw [← HEC.out]; go_num), Nat.le_refl _, by rw [Nat.sub_self]; rfl, by rw [Nat.sub_self]; simpa using HO.out, HB.out⟩
            case round =>
              clear HO HB
              obtain ⟨r, Al, cl, rfl, hr, rfl, ho, hb⟩ := hrel
              have HO := Lib.hid ho
              have HB := Lib.hid hb
              clear ho hb
              by_cases hr0 : 0 < r
              · have HO1 := Lib.hid (HO.out.alloc (.cells #[.bool full] 4))
                have HB1 := Lib.hid (HB.out.alloc HB.out.size (.cells #[.bool full] 4))
                have hsz1 := HB1.out.size
                have hsz0 := HB.out.size
                go_wp2_with (at_builtin; refine wpList_append_one (W := wr) rfl _ _ _ rfl w.heap.size 4 (.bool false) 1 Try.underlying30 boolInfo rfl Al (out.length + (cnt - r)) cl _ rfl HO.out (.bool full) _ rfl rfl rfl (by unfold maxLen; omega) (by omega) hsz0 ?_; intro A3 c3 w3 ho3 hg3 hd3)
                go_roundw
                case rel =>
                  have e1 : out.length + (cnt - r) + 1 = out.length + (cnt - (r - 1)) := by omega
                  have e2 : (out ++ List.replicate (cnt - r) full).map bv ++ [.bool full] = (out ++ List.replicate (cnt - (r - 1)) full).map bv := by
                    rw [show cnt - (r - 1) = cnt - r + 1 from by omega, ← rep_snoc, ← List.append_assoc, List.map_append (l₂ := [full])]
                    rfl
                  rw [e1, e2] at ho3
                  exact ⟨r - 1, A3, c3, by go_num, by omega, by rw [e1], ho3, HB.out.grown hg3 hsz0 (fun j e => (HO.out.lt j e).1)⟩
                case measure => simp [intOf]; omega
              · obtain rfl : r = 0 := by omega
                rw [Nat.sub_zero] at HO
                go_wp2
                go_roundw
                case rel => exact ⟨k + 2, out ++ List.replicate cnt full, Al, cl, !full, by rw [List.length_append, List.length_replicate, Nat.sub_zero], rfl, by go_num, by omega, by rw [List.length_append, List.length_replicate]; omega, FN.out, by rw [List.length_append, List.length_replicate]; exact HO.out, HB.out⟩
                case measure => simp [intOf]; omega
          · have HNO := Lib.hid (fols_cut HF.out hlt eb (by omega))
            have FN : Hid (Fols s (k + 1) (out ++ List.replicate (255) full) (!full)) := fols_none HNO.out
            have hcnt : 255 ≤ 510 := by omega
            obtain ⟨cnt, ec⟩ : ∃ cnt, 255 = cnt := ⟨_, rfl⟩
            rw [ec] at FN hcnt
            have HEC := Lib.hid ec
            clear ec
            clear HF
            go_wp2
            go_loopw [4, 7] (fun so sr wr => ∃ (r : Nat) (Al : Option Addr) (cl : Nat), sr = .int .i64 r ∧ r ≤ cnt ∧ so = .slice Al (out.length + (cnt - r)) cl ∧ wr.ownsRow w.heap.size 4 1 (.slice Al (out.length + (cnt - r)) cl) (out.length + (cnt - r)) ((out ++ List.replicate (cnt - r) full).map bv) ∧ Below w.heap.size w wr) (fun _ sr _ => (intOf sr).toNat)
            case atStart => exact ⟨cnt, Al, cl, by first | rfl | (rw [← HEC.out]; done) | (rw [← HEC.out]; go_num), Nat.le_refl _, by rw [Nat.sub_self]; rfl, by rw [Nat.sub_self]; simpa using HO.out, HB.out⟩
            case round =>
              clear HO HB
              obtain ⟨r, Al, cl, rfl, hr, rfl, ho, hb⟩ := hrel
              have HO := Lib.hid ho
              have HB := Lib.hid hb
              clear ho hb
              by_cases hr0 : 0 < r
              · have HO1 := Lib.hid (HO.out.alloc (.cells #[.bool full] 4))
                have HB1 := Lib.hid (HB.out.alloc HB.out.size (.cells #[.bool full] 4))
                have hsz1 := HB1.out.size
                have hsz0 := HB.out.size
                go_wp2_with (at_builtin; refine wpList_append_one (W := wr) rfl _ _ _ rfl w.heap.size 4 (.bool false) 1 Try.underlying30 boolInfo rfl Al (out.length + (cnt - r)) cl _ rfl HO.out (.bool full) _ rfl rfl rfl (by unfold maxLen; omega) (by omega) hsz0 ?_; intro A3 c3 w3 ho3 hg3 hd3)
                go_roundw
                case rel =>
                  have e1 : out.length + (cnt - r) + 1 = out.length + (cnt - (r - 1)) := by omega
                  have e2 : (out ++ List.replicate (cnt - r) full).map bv ++ [.bool full] = (out ++ List.replicate (cnt - (r - 1)) full).map bv := by
                    rw [show cnt - (r - 1) = cnt - r + 1 from by omega, ← rep_snoc, ← List.append_assoc, List.map_append (l₂ := [full])]
                    rfl
                  rw [e1, e2] at ho3
                  exact ⟨r - 1, A3, c3, by go_num, by omega, by rw [e1], ho3, HB.out.grown hg3 hsz0 (fun j e => (HO.out.lt j e).1)⟩
                case measure => simp [intOf]; omega
              · obtain rfl : r = 0 := by omega
                rw [Nat.sub_zero] at HO
                go_wp2
                go_roundw
                case rel => exact ⟨k + 1, out ++ List.replicate cnt full, Al, cl, !full, by rw [List.length_append, List.length_replicate, Nat.sub_zero], rfl, by go_num, by omega, by rw [List.length_append, List.length_replicate]; omega, FN.out, by rw [List.length_append, List.length_replicate]; exact HO.out, HB.out⟩
                case measure => simp [intOf]; omega
        · have hlt5 : b < 255 := by omega
          have FN : Hid (Fols s (k + 1) (out ++ List.replicate (b) full) (!full)) := fols_one HF.out hlt eb hlt5
          have hcnt : b ≤ 510 := by omega
          obtain ⟨cnt, ec⟩ : ∃ cnt, b = cnt := ⟨_, rfl⟩
          rw [ec] at FN hcnt
          have HEC := Lib.hid ec
          clear ec
          clear HF
          go_wp2
          go_loopw [4, 7] (fun so sr wr => ∃ (r : Nat) (Al : Option Addr) (cl : Nat), sr = .int .i64 r ∧ r ≤ cnt ∧ so = .slice Al (out.length + (cnt - r)) cl ∧ wr.ownsRow w.heap.size 4 1 (.slice Al (out.length + (cnt - r)) cl) (out.length + (cnt - r)) ((out ++ List.replicate (cnt - r) full).map bv) ∧ Below w.heap.size w wr) (fun _ sr _ => (intOf sr).toNat)
          case atStart => exact ⟨cnt, Al, cl, by first | rfl | (rw [← HEC.out]; done) | (rw [← HEC.out]; go_num), Nat.le_refl _, by rw [Nat.sub_self]; rfl, by rw [Nat.sub_self]; simpa using HO.out, HB.out⟩
          case round =>
            clear HO HB
            obtain ⟨r, Al, cl, rfl, hr, rfl, ho, hb⟩ := hrel
            have HO := Lib.hid ho
            have HB := Lib.hid hb
            clear ho hb
            by_cases hr0 : 0 < r
            · have HO1 := Lib.hid (HO.out.alloc (.cells #[.bool full] 4))
              have HB1 := Lib.hid (HB.out.alloc HB.out.size (.cells #[.bool full] 4))
              have hsz1 := HB1.out.size
              have hsz0 := HB.out.size
              go_wp2_with (at_builtin; refine wpList_append_one (W := wr) rfl _ _ _ rfl w.heap.size 4 (.bool false) 1 Try.underlying30 boolInfo rfl Al (out.length + (cnt - r)) cl _ rfl HO.out (.bool full) _ rfl rfl rfl (by unfold maxLen; omega) (by omega) hsz0 ?_; intro A3 c3 w3 ho3 hg3 hd3)
              go_roundw
              case rel =>
                have e1 : out.length + (cnt - r) + 1 = out.length + (cnt - (r - 1)) := by omega
                have e2 : (out ++ List.replicate (cnt - r) full).map bv ++ [.bool full] = (out ++ List.replicate (cnt - (r - 1)) full).map bv := by
                  rw [show cnt - (r - 1) = cnt - r + 1 from by omega, ← rep_snoc, ← List.append_assoc, List.map_append (l₂ := [full])]
                  rfl
                rw [e1, e2] at ho3
                exact ⟨r - 1, A3, c3, by go_num, by omega, by rw [e1], ho3, HB.out.grown hg3 hsz0 (fun j e => (HO.out.lt j e).1)⟩
              case measure => simp [intOf]; omega
            · obtain rfl : r = 0 := by omega
              rw [Nat.sub_zero] at HO
              go_wp2
              go_roundw
              case rel => exact ⟨k + 1, out ++ List.replicate cnt full, Al, cl, !full, by rw [List.length_append, List.length_replicate, Nat.sub_zero], rfl, by go_num, by omega, by rw [List.length_append, List.length_replicate]; omega, FN.out, by rw [List.length_append, List.length_replicate]; exact HO.out, HB.out⟩
              case measure => simp [intOf]; omega
      · have HN := Lib.hid (fols_big HF.out (by omega))
        go_wp2
        go_ret2
        exact ⟨none, HN.out, HB.out, .inl ⟨rfl, rfl⟩⟩
    · obtain rfl : k = s.size := by omega
      by_cases h256 : out.length ≤ 256
      · have HE := Lib.hid (fols_end HF.out (Nat.le_refl _) h256)
        have PC := Lib.hid (l07Pack_any out.length Al cl wo.heap.size out wo h256 rfl (Nat.le_refl _) (Rd.own HO.out))
        obtain ⟨q, eq⟩ : ∃ q, txt (pack out) = q := ⟨_, rfl⟩
        rw [eq] at PC HE
        by_cases hq : q = s
        · subst hq
          have hqq := str_eq q
          have HU := Lib.hid (HE.out.1 rfl)
          clear HE HF eq
          go_wp2_with fail
          refine PC.out.mono ?_
          rintro e w1 ⟨rfl, hb1⟩
          have HB1 := Lib.hid (HB.out.trans (hb1.mono HB.out.size))
          have HO1 := Lib.hid (own_below HO.out hb1)
          clear hb1
          go_wp2
          go_ret2
          exact ⟨some out, HU.out, HB1.out, .inr ⟨out, Al, cl, rfl, rfl, HO1.out⟩⟩
        · have hqq := str_ne hq
          have HU := Lib.hid (HE.out.2 hq)
          clear HE HF eq hq
          go_wp2_with fail
          refine PC.out.mono ?_
          rintro e w1 ⟨rfl, hb1⟩
          have HB1 := Lib.hid (HB.out.trans (hb1.mono HB.out.size))
          clear hb1
          go_wp2
          go_ret2
          exact ⟨none, HU.out, HB1.out, .inl ⟨rfl, rfl⟩⟩
      · have HN := Lib.hid (fols_big HF.out (by omega))
        go_wp2
        go_ret2
        exact ⟨none, HN.out, HB.out, .inl ⟨rfl, rfl⟩⟩
end Go.Proofs.Ytlklpfjcnbkhlaa

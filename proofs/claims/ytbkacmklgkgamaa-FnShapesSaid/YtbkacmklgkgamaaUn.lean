/- Walks: the cells with given runs, by the program and by the reference. Condition: the text is shorter than 2^63. -/
import Derived.Test.YtbkacmklgkgamaaLs
import Derived.Test.YtbkacmklgkgamaaRep
namespace Go.Proofs.Ytbkacmklgkgamaa
open Go.RowKit

theorem str_ne {a b : ByteArray} (h : a ≠ b) : (a.toList == b.toList) = false := by
  simp only [beq_eq_false_iff_ne, ne_eq, ByteArray.toList_eq]
  exact fun e => h (WideShapes.bytes_inj e)
theorem str_eq (a : ByteArray) : (a.toList == a.toList) = true := by simp
theorem nums_get {s : ByteArray} {k : Nat} (h : k < s.size) : (nums s)[k]? = some s[k].toNat := by
  unfold nums
  rw [List.getElem?_map]
  have h' : k < s.data.toList.length := by simpa using h
  rw [List.getElem?_eq_getElem h']
  rfl
/-- Read so far: every list of cells that has these runs begins so. -/
def Fols (s : ByteArray) (k : Nat) (out : List Bool) (full : Bool) : Prop := ∀ l : List Bool, l.length ≤ 256 → pack l = nums s → Fol (nums s) l k out full
theorem fols_zero (s : ByteArray) : Fols s 0 [] false := fun _ _ h => fol_zero h
theorem fols_one {s : ByteArray} {k : Nat} {out : List Bool} {full : Bool} (h : Fols s k out full) (hk : k < s.size) {b : Nat} (hb : s[k].toNat = b) (h2 : b < 255) : Fols s (k + 1) (out ++ List.replicate b full) (!full) :=
  fun l hl he => (fol_step (h l hl he) (by rw [nums_get hk, hb])).1 h2
theorem fols_two {s : ByteArray} {k : Nat} {out : List Bool} {full : Bool} (h : Fols s k out full) (hk : k < s.size) (hb : s[k].toNat = 255) (hk1 : k + 1 < s.size) {b2 : Nat} (hb2 : s[k + 1].toNat = b2) : Fols s (k + 2) (out ++ List.replicate (255 + b2) full) (!full) :=
  fun l hl he => by
    obtain ⟨_, b', h1, h2⟩ := (fol_step (h l hl he) (by rw [nums_get hk, hb])).2 (Nat.le_refl _)
    rw [nums_get hk1, hb2] at h1
    injection h1 with h1
    subst h1
    exact h2
theorem fols_cut {s : ByteArray} {k : Nat} {out : List Bool} {full : Bool} (h : Fols s k out full) (hk : k < s.size) (hb : s[k].toNat = 255) (hk1 : s.size ≤ k + 1) : ∀ l : List Bool, l.length ≤ 256 → pack l ≠ nums s :=
  fun l hl he => by
    obtain ⟨_, b', h1, h2⟩ := (fol_step (h l hl he) (by rw [nums_get hk, hb])).2 (Nat.le_refl _)
    rw [List.getElem?_eq_none (by rw [nums_len]; exact hk1)] at h1
    cases h1
theorem fols_none {s : ByteArray} {k : Nat} {out : List Bool} {full : Bool} (h : ∀ l : List Bool, l.length ≤ 256 → pack l ≠ nums s) : Fols s k out full := fun l hl he => absurd he (h l hl)
theorem fols_big {s : ByteArray} {k : Nat} {out : List Bool} {full : Bool} (h : Fols s k out full) (hb : 256 < out.length) : Unp (nums s) none := fun l hl he => by
  have := fol_len (h l hl he)
  omega
theorem fols_end {s : ByteArray} {k : Nat} {out : List Bool} {full : Bool} (h : Fols s k out full) (hk : s.size ≤ k) (ho : out.length ≤ 256) : (txt (pack out) = s → Unp (nums s) (some out)) ∧ (txt (pack out) ≠ s → Unp (nums s) none) := by
  have he : ∀ l : List Bool, l.length ≤ 256 → pack l = nums s → l = out := fun l hl hp => fol_end (h l hl hp) (by rw [nums_len]; exact hk)
  have hn : nums (txt (pack out)) = pack out := nums_txt (pack_lt ho)
  constructor
  · intro e
    exact ⟨ho, by rw [← hn, e], he⟩
  · intro e l hl hp
    apply e
    rw [← he l hl hp, hp, txt_nums]
/-- What both unpackings give. -/
def UnpOut (s : ByteArray) (w : World) (e : Ending) (w' : World) : Prop := ∃ r : Option (List Bool), Unp (nums s) r ∧ Below w.heap.size w w' ∧
  ((r = none ∧ e = .returned (.tuple #[.slice none 0 0, .bool false])) ∨ ∃ (o : List Bool) (A : Option Addr) (c : Nat), r = some o ∧ e = .returned (.tuple #[.slice A o.length c, .bool true]) ∧ w'.ownsRow w.heap.size 4 1 (.slice A o.length c) o.length (o.map bv))
theorem rep_snoc (n : Nat) (b : Bool) : List.replicate n b ++ [b] = List.replicate (n + 1) b := by rw [List.replicate_succ']

end Go.Proofs.Ytbkacmklgkgamaa

/- Plain law (no program): the bytes of a shape; which cells have given runs. Conditions: none. -/
import Derived.Test.YtbkacmklgkgamaaBy
import Derived.Test.YtbkacmklgkgamaaPc
import Derived.Test.YtbkacmklgkgamaaNm
namespace Go.Proofs.Ytbkacmklgkgamaa

/-- The bytes of a shape but for the check number. -/
def bodyL (nm : ByteArray) (W H : Nat) (cs : List Bool) : List Nat := [83, 72, 80, 49, nm.size] ++ nums nm ++ [W, H, (pack cs).length % 256, (pack cs).length / 256] ++ pack cs
def chkL (l : List Nat) : Nat := chk 0 (txt l).data.toList
/-- The bytes of a shape. -/
def wholeL (nm : ByteArray) (W H : Nat) (cs : List Bool) : List Nat := bodyL nm W H cs ++ [chkL (bodyL nm W H cs) % 256, chkL (bodyL nm W H cs) / 256]
theorem pack_len (l : List Bool) : (pack l).length ≤ 4 * l.length + 2 := by
  have := packF_len (2 * l.length + 1) l false
  unfold pack; omega
theorem pack_lt {l : List Bool} (h : l.length ≤ 256) : ∀ x ∈ pack l, x < 256 := packF_lt h
theorem bodyL_len (nm : ByteArray) (W H : Nat) (cs : List Bool) : (bodyL nm W H cs).length = 9 + nm.size + (pack cs).length := by
  unfold bodyL
  simp only [List.length_append, nums_len, List.length_cons, List.length_nil]
  omega
theorem wholeL_len (nm : ByteArray) (W H : Nat) (cs : List Bool) : (wholeL nm W H cs).length = 11 + nm.size + (pack cs).length := by
  unfold wholeL
  rw [List.length_append, bodyL_len]
  simp only [List.length_cons, List.length_nil]
  omega
theorem chkL_lt (l : List Nat) : chkL l < 65003 := chk_lt (by omega) _
theorem bodyL_lt {nm : ByteArray} {W H : Nat} {cs : List Bool} (h1 : nm.size ≤ 8) (h2 : W ≤ 16) (h3 : H ≤ 16) (h4 : cs.length ≤ 256) : ∀ x ∈ bodyL nm W H cs, x < 256 := by
  intro x hx
  have hp := pack_len cs
  have hn := nums_lt nm
  have hk := pack_lt h4
  unfold bodyL at hx
  simp only [List.mem_append, List.mem_cons, List.not_mem_nil, or_false] at hx
  rcases hx with ((hx | hx) | hx) | hx
  · omega
  · exact hn x hx
  · rcases hx with h | h | h | h <;> omega
  · exact hk x hx
theorem wholeL_lt {nm : ByteArray} {W H : Nat} {cs : List Bool} (h1 : nm.size ≤ 8) (h2 : W ≤ 16) (h3 : H ≤ 16) (h4 : cs.length ≤ 256) : ∀ x ∈ wholeL nm W H cs, x < 256 := by
  intro x hx
  unfold wholeL at hx
  rw [List.mem_append] at hx
  rcases hx with hx | hx
  · exact bodyL_lt h1 h2 h3 h4 x hx
  · have := chkL_lt (bodyL nm W H cs)
    simp only [List.mem_cons, List.not_mem_nil, or_false] at hx
    omega

/-- The cells l, whose runs are s, have been read as far as out. -/
def Fol (s : List Nat) (l : List Bool) (at_ : Nat) (out : List Bool) (full : Bool) : Prop :=
  ∃ k f, k ≤ l.length ∧ out = l.take k ∧ left_ (l.drop k) full ≤ f ∧ s.drop at_ = packF f (l.drop k) full
theorem fol_zero {s : List Nat} {l : List Bool} (h : pack l = s) : Fol s l 0 [] false :=
  ⟨0, 2 * l.length + 1, Nat.zero_le _, by simp, left_pack l, by rw [List.drop_zero, List.drop_zero]; exact h.symm⟩
theorem fol_len {s : List Nat} {l : List Bool} {a : Nat} {out : List Bool} {full : Bool} (h : Fol s l a out full) : out.length ≤ l.length := by
  obtain ⟨k, f, hk, rfl, _, _⟩ := h
  rw [List.length_take]; omega
theorem emit_ne (n : Nat) : emit n ≠ [] := by unfold emit; split <;> simp
theorem fol_end {s : List Nat} {l : List Bool} {a : Nat} {out : List Bool} {full : Bool} (h : Fol s l a out full) (ha : s.length ≤ a) : l = out := by
  obtain ⟨k, f, hk, rfl, hf, hs⟩ := h
  rw [List.drop_eq_nil_of_le ha] at hs
  by_cases h0 : l.drop k = []
  · have : l.length ≤ k := by simpa using h0
    rw [List.take_of_length_le this]
  · exfalso
    have : 1 ≤ (l.drop k).length := by
      cases h1 : l.drop k with
      | nil => exact absurd h1 h0
      | cons a b => simp
    have h2 : 2 ≤ left_ (l.drop k) full := by unfold left_; split <;> omega
    obtain ⟨f', rfl⟩ : ∃ f', f = f' + 1 := ⟨f - 1, by omega⟩
    rw [packF_step h0] at hs
    have := List.append_eq_nil_iff.1 hs.symm
    exact emit_ne _ this.1
theorem take_run {l : List Bool} {k : Nat} {full : Bool} (hk : k ≤ l.length) : l.take k ++ List.replicate (runOf full (l.drop k)) full = l.take (k + runOf full (l.drop k)) := by
  rw [List.take_add]
  congr 1
  refine List.ext_getElem? fun j => ?_
  rw [List.getElem?_replicate]
  by_cases hj : j < runOf full (l.drop k)
  · rw [if_pos hj, List.getElem?_take_of_lt hj]
    exact (runOf_at full _ j hj).symm
  · rw [if_neg hj, List.getElem?_eq_none]
    rw [List.length_take]; omega
theorem fol_step {s : List Nat} {l : List Bool} {a b : Nat} {out : List Bool} {full : Bool} (h : Fol s l a out full) (hb : s[a]? = some b) :
    (b < 255 → Fol s l (a + 1) (out ++ List.replicate b full) (!full)) ∧ (255 ≤ b → b = 255 ∧ ∃ b2, s[a + 1]? = some b2 ∧ Fol s l (a + 2) (out ++ List.replicate (255 + b2) full) (!full)) := by
  obtain ⟨k, f, hk, rfl, hf, hs⟩ := h
  have h0 : l.drop k ≠ [] := by
    intro h0
    rw [h0, packF_nil] at hs
    have h1 : s.length ≤ a := by simpa using hs
    rw [List.getElem?_eq_none h1] at hb
    cases hb
  have h1 : 1 ≤ (l.drop k).length := by
    cases h1 : l.drop k with
    | nil => exact absurd h1 h0
    | cons a b => simp
  have h2 : 2 ≤ left_ (l.drop k) full := by unfold left_; split <;> omega
  obtain ⟨f', rfl⟩ : ∃ f', f = f' + 1 := ⟨f - 1, by omega⟩
  rw [packF_step h0] at hs
  have hst := left_step (full := full) h0
  obtain ⟨r, hr⟩ : ∃ r, runOf full (l.drop k) = r := ⟨_, rfl⟩
  have hrl := runOf_le full (l.drop k)
  have htk := take_run (full := full) hk
  rw [hr] at hs hst hrl htk
  rw [List.length_drop] at hrl
  rw [List.drop_drop] at hs hst
  have g0 : (s.drop a)[0]? = some b := by rw [List.getElem?_drop]; exact hb
  rw [hs] at g0
  unfold emit at hs g0
  by_cases hr2 : r < 255
  · rw [if_pos hr2] at hs g0
    simp at g0
    subst g0
    refine ⟨fun _ => ⟨k + r, f', by omega, htk, by omega, ?_⟩, fun h => absurd h (by omega)⟩
    rw [← List.drop_drop, hs]
    rfl
  · rw [if_neg hr2] at hs g0
    simp at g0
    subst g0
    refine ⟨fun h => absurd h (by omega), fun _ => ⟨rfl, r - 255, ?_, k + r, f', by omega, ?_, by omega, ?_⟩⟩
    · have : (s.drop a)[1]? = some (r - 255) := by rw [hs]; rfl
      rwa [List.getElem?_drop] at this
    · rw [show 255 + (r - 255) = r by omega]; exact htk
    · rw [← List.drop_drop, hs]
      rfl

/-- What unpacking a text gives. -/
def Unp (s : List Nat) : Option (List Bool) → Prop
  | some o => o.length ≤ 256 ∧ pack o = s ∧ ∀ l, l.length ≤ 256 → pack l = s → l = o
  | none => ∀ l : List Bool, l.length ≤ 256 → pack l ≠ s
theorem unp_uniq {s : List Nat} {a b : Option (List Bool)} (ha : Unp s a) (hb : Unp s b) : a = b := by
  cases a with
  | none =>
    cases b with
    | none => rfl
    | some o => exact absurd hb.2.1 (ha o hb.1)
  | some o =>
    cases b with
    | none => exact absurd ha.2.1 (hb o ha.1)
    | some o' => rw [ha.2.2 o' hb.1 hb.2.1]
theorem unp_pack {l : List Bool} (h : l.length ≤ 256) {r : Option (List Bool)} (hr : Unp (pack l) r) : r = some l := by
  cases r with
  | none => exact absurd rfl (hr l h)
  | some o => rw [hr.2.2 l h rfl]
end Go.Proofs.Ytbkacmklgkgamaa

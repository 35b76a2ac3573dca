/- Plain law: what is recovered of the bytes of shapes that are whole, cut or bent. No condition. -/
import Derived.Test.YtbkacmklgkgamaaRc
namespace Go.Proofs.Ytbkacmklgkgamaa

theorem whole_size (x : Rdd) : x.whole.length = 11 + x.nm.size + (pack x.cs).length := wholeL_len _ _ _ _
theorem lodP_nil : LodP [] none := fun x _ r h => by
  have h1 := congrArg List.length h
  have h2 := whole_size x
  simp only [List.length_append, List.length_nil] at h1
  omega
theorem recE_whole {L : List Rdd} (hok : ∀ x ∈ L, x.ok) (hl : L.length ≤ 8) : RecE (catR L) 8 L := ⟨hok, hl, [], by simp, .inr lodP_nil⟩
theorem catR_app (A B : List Rdd) : catR (A ++ B) = catR A ++ catR B := by
  unfold catR
  rw [List.flatMap_append]
theorem catR_at {L : List Rdd} {k : Nat} {x : Rdd} (h : L[k]? = some x) : catR L = catR (L.take k) ++ (x.whole ++ catR (L.drop (k + 1))) := by
  obtain ⟨hk, e⟩ := List.getElem?_eq_some_iff.1 h
  have e1 : L = L.take k ++ (x :: L.drop (k + 1)) := by
    rw [← e, ← List.drop_eq_getElem_cons hk]
    exact (List.take_append_drop k L).symm
  have e2 : catR (x :: L.drop (k + 1)) = x.whole ++ catR (L.drop (k + 1)) := by simp [catR]
  rw [← e2, ← catR_app, ← e1]
theorem catR_succ {L : List Rdd} {k : Nat} {x : Rdd} (h : L[k]? = some x) : catR (L.take (k + 1)) = catR (L.take k) ++ x.whole := by
  obtain ⟨hk, e⟩ := List.getElem?_eq_some_iff.1 h
  rw [← catR_snoc, List.take_add_one, h]
  rfl
theorem recE_cut {L : List Rdd} (hok : ∀ x ∈ L, x.ok) (hl : L.length ≤ 8) {k cut : Nat} (hk : k < L.length) (h1 : (catR (L.take k)).length ≤ cut) (h2 : cut < (catR (L.take (k + 1))).length) : RecE ((catR L).take cut) 8 (L.take k) := by
  obtain ⟨x, hx⟩ : ∃ x, L[k]? = some x := ⟨_, List.getElem?_eq_getElem hk⟩
  rw [catR_succ hx, List.length_append] at h2
  refine ⟨fun y hy => hok y (List.mem_of_mem_take hy), by rw [List.length_take]; omega, (x.whole ++ catR (L.drop (k + 1))).take (cut - (catR (L.take k)).length), ?_, .inr fun y hy r e => ?_⟩
  · rw [catR_at hx]
    generalize x.whole ++ catR (L.drop (k + 1)) = R
    rw [List.take_append, List.take_of_length_le h1]
  · have e1 : y.whole ++ (r ++ (x.whole ++ catR (L.drop (k + 1))).drop (cut - (catR (L.take k)).length)) = x.whole ++ catR (L.drop (k + 1)) := by
      rw [← List.append_assoc, e, List.take_append_drop]
    have e2 := rdd_inj e1
    subst e2
    have h3 := congrArg List.length e
    rw [List.length_append, List.length_take] at h3
    omega
theorem recE_pre : ∀ (K M : List Rdd) (s r : List Nat) (b : Nat), (∀ x ∈ K, x.ok) → K.length ≤ b → catR K ++ r = s → RecE s b M → ∃ M', M = K ++ M' := by
  intro K
  induction K with
  | nil => exact fun M _ _ _ _ _ _ _ => ⟨M, rfl⟩
  | cons x K ih =>
    intro M s r b hK hb hs hM
    have e1 : catR (x :: K) ++ r = x.whole ++ (catR K ++ r) := by simp [catR]
    simp only [List.length_cons] at hb
    cases M with
    | nil =>
      obtain ⟨_, _, r', hr', hl⟩ := hM
      rcases hl with hl | hl
      · simp at hl; omega
      · exfalso
        refine hl x (hK x (by simp)) (catR K ++ r) ?_
        rw [← e1, hs, ← hr']
        simp [catR]
    | cons y M =>
      obtain ⟨ho, hl, r', hr', hs'⟩ := hM
      have e2 : catR (y :: M) ++ r' = y.whole ++ (catR M ++ r') := by simp [catR]
      have e : x.whole ++ (catR K ++ r) = y.whole ++ (catR M ++ r') := by rw [← e1, ← e2, hs, hr']
      have hxy := rdd_inj e
      subst hxy
      have e3 := List.append_cancel_left e
      simp only [List.length_cons] at hl hs'
      obtain ⟨M', hM'⟩ := ih M (catR K ++ r) r (b - 1) (fun z hz => hK z (by simp [hz])) (by omega) rfl
        ⟨fun z hz => ho z (by simp [hz]), by omega, r', e3.symm, by rcases hs' with h | h; exact .inl (by omega); exact .inr h⟩
      exact ⟨M', by rw [hM']; rfl⟩
/-- Bytes bent behind the first k shapes: these are still read. -/
theorem recE_bent {L M : List Rdd} (hok : ∀ x ∈ L, x.ok) (hl : L.length ≤ 8) {k cut v : Nat} (h1 : (catR (L.take k)).length ≤ cut) (hk : k ≤ L.length) (h : RecE ((catR L).set cut v) 8 M) : k ≤ M.length := by
  have e : catR L = catR (L.take k) ++ catR (L.drop k) := by rw [← catR_app, List.take_append_drop]
  have e2 : catR (L.take k) ++ (catR (L.drop k)).set (cut - (catR (L.take k)).length) v = (catR L).set cut v := by
    rw [e, List.set_append_right _ _ h1]
  obtain ⟨M', rfl⟩ := recE_pre (L.take k) M _ _ 8 (fun y hy => hok y (List.mem_of_mem_take hy)) (by rw [List.length_take]; omega) e2 h
  rw [List.length_append, List.length_take]
  omega
/-- What was read is a beginning of the bytes. -/
theorem recE_take {s : List Nat} {b : Nat} {M : List Rdd} (h : RecE s b M) : s.take (catR M).length = catR M ∧ (catR M).length ≤ s.length := by
  obtain ⟨_, _, r, e, _⟩ := h
  rw [← e]
  exact ⟨by rw [List.take_append_of_le_length (Nat.le_refl _), List.take_length], by simp⟩
/-- Where each shape ends. -/
def endsL (L : List Rdd) (k : Nat) : List Int := (List.range (k + 1)).map fun j => ((catR (L.take j)).length : Int)
theorem endsL_get {L : List Rdd} {k j : Nat} (h : j ≤ k) : (endsL L k)[j]? = some ((catR (L.take j)).length : Int) := by
  unfold endsL
  rw [List.getElem?_map, List.getElem?_range (by omega)]
  rfl
theorem endsL_zero (L : List Rdd) : endsL L 0 = [0] := rfl
theorem endsL_succ (L : List Rdd) (k : Nat) : endsL L (k + 1) = endsL L k ++ [((catR (L.take (k + 1))).length : Int)] := by
  unfold endsL
  rw [List.range_succ (n := k + 1), List.map_append]
  rfl
theorem catR_len_le {L : List Rdd} (hok : ∀ x ∈ L, x.ok) : (catR L).length ≤ 1100 * L.length := by
  induction L with
  | nil => simp [catR]
  | cons x L ih =>
    have h1 := okC_parts (hok x (by simp))
    have h2 := whole_size x
    have h3 := pack_len x.cs
    have e : catR (x :: L) = x.whole ++ catR L := by simp [catR]
    rw [e, List.length_append, List.length_cons]
    have := ih (fun y hy => hok y (by simp [hy]))
    omega
theorem ct_eq {s : Shp} {x : Rdd} (h : s.ct = x.ct) : s.nm = x.nm ∧ s.wd = (x.W : Int) ∧ s.hi = (x.H : Int) ∧ s.cs = x.cs := by
  unfold Shp.ct Rdd.ct at h
  simpa only [Prod.mk.injEq] using h
theorem MS.at_ {w : World} {base g c : Nat} {L : List Rdd} {M : List Shp} (h : MS w base g c L M) {k : Nat} {x : Rdd} (hx : L[k]? = some x) : ∃ (Q : Option Addr) (cq : Nat), M[k]? = some ⟨x.nm, (x.W : Int), (x.H : Int), Q, cq, x.cs⟩ := by
  have hk : k < M.length := by
    have h1 := (List.getElem?_eq_some_iff.1 hx).1
    have h2 := congrArg List.length h.ct
    simp at h2
    omega
  have hs : M[k]? = some M[k] := List.getElem?_eq_getElem hk
  have hc : M[k].ct = x.ct := by
    have h1 := congrArg (fun l : List (ByteArray × Int × Int × List Bool) => l[k]?) h.ct
    simp only [List.getElem?_map, hx, hs, Option.map_some, Option.some.injEq] at h1
    exact h1
  obtain ⟨e1, e2, e3, e4⟩ := ct_eq hc
  refine ⟨M[k].A, M[k].c, ?_⟩
  rw [hs, ← e1, ← e2, ← e3, ← e4]
theorem MS.read {w : World} {base g c : Nat} {L : List Rdd} {M : List Shp} (h : MS w base g c L M) : ShR w w.heap.size (some ⟨g, 0, none⟩) L.length M := ⟨h.len, Rd.own h.own, fun s hs => Rd.own (h.cells s hs)⟩
theorem MS.fits {w : World} {base g c : Nat} {L : List Rdd} {M : List Shp} (h : MS w base g c L M) (hok : ∀ x ∈ L, x.ok) : ShF M := fun s hs => by
  have hm : s.ct ∈ M.map Shp.ct := List.mem_map_of_mem hs
  rw [h.ct] at hm
  obtain ⟨x, hx, e⟩ := List.mem_map.1 hm
  obtain ⟨e1, _, _, e4⟩ := ct_eq e.symm
  have hp := okC_parts (hok x hx)
  rw [e1, e4]
  unfold maxLen
  omega
theorem Bo.take {w : World} {B g n c o : Nat} {l : List Nat} (h : Bo w B g n c l) (ho : o ≤ n) : Bo w B g o c (l.take o) := by
  obtain ⟨h1, h2, h3, h4, h5, h6, h7⟩ := h
  refine ⟨by rw [List.length_take]; omega, h2, h3, by omega, h5, h6, fun j u hu => h7 j u ?_⟩
  unfold bc at hu ⊢
  rw [List.map_take] at hu
  have hj := (List.getElem?_eq_some_iff.1 hu).1
  rw [List.length_take] at hj
  rwa [List.getElem?_take_of_lt (by omega)] at hu
theorem Bo.set_ {w : World} {B g n c j v : Nat} {l : List Nat} (h : Bo w B g n c l) (hj : j < n) : Bo (w.setCell ⟨g, j, none⟩ (.int .u8 (v : Int))) B g n c (l.set j v) := by
  obtain ⟨h1, h2, h3, h4, h5, h6, h7⟩ := h
  have hs : (w.cell? ⟨g, j, none⟩).isSome = true := (h6 j (by omega)).1
  refine ⟨by rw [List.length_set]; exact h1, h2, by simpa using h3, h4, h5, fun i hi => ⟨?_, ?_⟩, fun i u hu => ?_⟩
  · by_cases e : j = i
    · subst e
      rw [World.cell?_setCell_same' w ⟨g, j, none⟩ _ hs]
      rfl
    · rw [World.cell?_setCell_other w ⟨g, j, none⟩ ⟨g, i, none⟩ _ (by intro q; injection q with _ q _; exact e q)]
      exact (h6 i hi).1
  · rw [World.frozen?_setCell]
    exact (h6 i hi).2
  · by_cases e : j = i
    · subst e
      rw [World.cell?_setCell_same' w ⟨g, j, none⟩ _ hs, ← hu]
      unfold bc
      rw [List.getElem?_map, List.getElem?_set_self (by omega)]
      rfl
    · rw [World.cell?_setCell_other w ⟨g, j, none⟩ ⟨g, i, none⟩ _ (by intro q; injection q with _ q _; exact e q)]
      refine h7 i u ?_
      rw [← hu]
      unfold bc
      rw [List.getElem?_map, List.getElem?_map, List.getElem?_set_ne e]
theorem catS_ct {M : List Shp} {L : List Rdd} (h : M.map Shp.ct = L.map Rdd.ct) : catS M = catR L := by
  have e1 : catS M = (M.map Shp.ct).flatMap fun p => wholeL p.1 p.2.1.toNat p.2.2.1.toNat p.2.2.2 := by
    unfold catS
    rw [List.flatMap_map]
    rfl
  have e2 : catR L = (L.map Rdd.ct).flatMap fun p => wholeL p.1 p.2.1.toNat p.2.2.1.toNat p.2.2.2 := by
    unfold catR
    rw [List.flatMap_map]
    rfl
  rw [e1, e2, h]
theorem stOk_ct {M : List Shp} {L : List Rdd} (h : M.map Shp.ct = L.map Rdd.ct) (hok : ∀ x ∈ L, x.ok) (hl : L.length ≤ 8) : stOk M = true := by
  have h1 := congrArg List.length h
  simp only [List.length_map] at h1
  unfold stOk
  rw [Bool.and_eq_true, List.all_eq_true]
  refine ⟨decide_eq_true (by omega), fun s hs => ?_⟩
  have hm : s.ct ∈ M.map Shp.ct := List.mem_map_of_mem hs
  rw [h] at hm
  obtain ⟨x, hx, e⟩ := List.mem_map.1 hm
  obtain ⟨e1, e2, e3, e4⟩ := ct_eq e.symm
  unfold Shp.ok
  rw [e1, e2, e3, e4]
  exact hok x hx
theorem stT_ct {M : List Shp} {L : List Rdd} (h : M.map Shp.ct = L.map Rdd.ct) (hok : ∀ x ∈ L, x.ok) (hl : L.length ≤ 8) : stT M = .returned (.tuple #[.string (txt (catR L)), .bool true]) := by
  unfold stT
  rw [if_pos (stOk_ct h hok hl), catS_ct h]
theorem catR_lt {L : List Rdd} (hok : ∀ x ∈ L, x.ok) : ∀ y ∈ catR L, y < 256 := by
  intro y hy
  unfold catR at hy
  rw [List.mem_flatMap] at hy
  obtain ⟨x, hx, h⟩ := hy
  obtain ⟨p1, p2, p3, p4⟩ := okC_parts (hok x hx)
  exact wholeL_lt p1 p2 p3 p4 y h
end Go.Proofs.Ytbkacmklgkgamaa

/- Plain law (no program): a drop runs the same way by the reference and by the program, as long as all heights are finite; else both end with a height that is not. Conditions: as each says. -/
import Derived.Test.YtoibgpmpngccjaaNs
namespace Go.Proofs.Ytoibgpmpngccjaa
open Go.RowKit

def ltF (x y : Nat) : Bool := FloatKind.f32.format.order x y == some Ordering.lt
/-- A finite number as a whole number of the least steps. -/
def valF (x : Nat) : Int := match Ieee.single.read x with | .number s m i => Ieee.signed s m (i + 149).toNat | _ => 0
theorem signed_add (s : Bool) (m a b : Nat) : Ieee.signed s m (a + b) = Ieee.signed s m a * ((2 ^ b : Nat) : Int) := by
  unfold Ieee.signed
  simp only [Nat.shiftLeft_eq, Nat.pow_add]
  cases s
  · simp [Int.natCast_mul, Int.mul_assoc]
  · simp [Int.natCast_mul, Int.mul_assoc, Int.neg_mul]
theorem compare_lt (x y : Int) : (compare x y == Ordering.lt) = decide (x < y) := by
  rcases Int.lt_trichotomy x y with h | h | h
  · rw [show compare x y = .lt from Int.compare_eq_lt.2 h]
    simp [h]
  · subst h
    simp
  · rw [show compare x y = .gt from Int.compare_eq_gt.2 h]
    simp
    omega
theorem lt_fin {x y : Nat} (hx : finW x = true) (hy : finW y = true) : ltF x y = decide (valF x < valF y) := by
  obtain ⟨s, m, i, ex⟩ := finW_iff.1 hx
  obtain ⟨t, n, j, ey⟩ := finW_iff.1 hy
  have bx := read_bounds ex
  have by' := read_bounds ey
  have h1 : ltF x y = decide (Ieee.signed s m (i - min i j).toNat < Ieee.signed t n (j - min i j).toNat) := by
    rw [← compare_lt]
    unfold ltF
    show (Ieee.single.order x y == some Ordering.lt) = _
    unfold Ieee.Format.order
    rw [ex, ey]
    rfl
  have h2 : valF x = Ieee.signed s m (i - min i j).toNat * ((2 ^ (min i j + 149).toNat : Nat) : Int) := by
    have e : (i + 149).toNat = (i - min i j).toNat + (min i j + 149).toNat := by omega
    unfold valF
    rw [ex]
    show Ieee.signed s m (i + 149).toNat = _
    rw [e, signed_add]
  have h3 : valF y = Ieee.signed t n (j - min i j).toNat * ((2 ^ (min i j + 149).toNat : Nat) : Int) := by
    have e : (j + 149).toNat = (j - min i j).toNat + (min i j + 149).toNat := by omega
    unfold valF
    rw [ey]
    show Ieee.signed t n (j + 149).toNat = _
    rw [e, signed_add]
  rw [h1, h2, h3]
  have hp : (0 : Int) < ((2 ^ (min i j + 149).toNat : Nat) : Int) := by
    have := Nat.pow_pos (n := (min i j + 149).toNat) (show 0 < 2 by omega)
    omega
  generalize ((2 ^ (min i j + 149).toNat : Nat) : Int) = z at hp
  generalize Ieee.signed s m (i - min i j).toNat = p
  generalize Ieee.signed t n (j - min i j).toNat = q
  by_cases h : p < q
  · have := Int.mul_lt_mul_of_pos_right h hp
    simp [h, this]
  · have := Int.mul_le_mul_of_nonneg_right (show q ≤ p by omega) (show 0 ≤ z by omega)
    simp [h]
    omega
/-- The reference's choice: the first lowest one below the place, or the place. -/
def bestS (H : List Nat) (a : Nat) (ks : List Nat) : Nat := ks.foldl (fun b k => if ltF (H.getD k 0) (H.getD b 0) then k else b) a
/-- The program's choice: the first lowest of the sides. -/
def lowI (H : List Nat) (ks : List Nat) : Option Nat := ks.foldl (fun o k => match o with | none => some k | some b => if ltF (H.getD k 0) (H.getD b 0) then some k else some b) none
def nxS (W Hh : Nat) (H : List Nat) (a : Nat) : Option Nat := if bestS H a (nbs W Hh a) = a then none else some (bestS H a (nbs W Hh a))
def nxI (W Hh : Nat) (H : List Nat) (a : Nat) : Option Nat := match lowI H (nbs W Hh a) with | none => none | some b => if ltF (H.getD b 0) (H.getD a 0) then some b else none
theorem fin_get {H : List Nat} (h : H.all finW = true) (k : Nat) : finW (H.getD k 0) = true := by
  rw [List.getD_eq_getElem?_getD]
  cases hk : H[k]? with
  | none => decide
  | some x => exact (List.all_eq_true.1 h) x (List.mem_of_getElem? hk)
/-- The two choices, told with whole numbers. -/
def fS (V : Nat → Int) (b k : Nat) : Nat := if V k < V b then k else b
def fI (V : Nat → Int) (o : Option Nat) (k : Nat) : Option Nat := match o with | none => some k | some b => if V k < V b then some k else some b
def RelSI (V : Nat → Int) (a b : Nat) (o : Option Nat) : Prop := match o with | none => b = a | some l => (V l < V a ∧ b = l) ∨ (V a ≤ V l ∧ b = a)
theorem rel_step {V : Nat → Int} {a b : Nat} {o : Option Nat} (k : Nat) (h : RelSI V a b o) : RelSI V a (fS V b k) (fI V o k) := by
  unfold RelSI fS fI at *
  cases o with
  | none =>
    simp only at h ⊢
    subst h
    by_cases hk : V k < V b
    · rw [if_pos hk]
      exact .inl ⟨hk, rfl⟩
    · rw [if_neg hk]
      exact .inr ⟨by omega, rfl⟩
  | some l =>
    simp only at h ⊢
    rcases h with ⟨h1, rfl⟩ | ⟨h1, rfl⟩
    · by_cases hk : V k < V b
      · rw [if_pos hk, if_pos hk]
        exact .inl ⟨by omega, rfl⟩
      · rw [if_neg hk, if_neg hk]
        exact .inl ⟨h1, rfl⟩
    · by_cases hk : V k < V l
      · rw [if_pos hk]
        by_cases hb : V k < V b
        · rw [if_pos hb]
          exact .inl ⟨hb, rfl⟩
        · rw [if_neg hb]
          exact .inr ⟨by omega, rfl⟩
      · rw [if_neg hk, if_neg (by omega)]
        exact .inr ⟨h1, rfl⟩
theorem rel_fold {V : Nat → Int} {a : Nat} : ∀ (ks : List Nat) (b : Nat) (o : Option Nat), RelSI V a b o → RelSI V a (ks.foldl (fS V) b) (ks.foldl (fI V) o)
  | [], _, _, h => h
  | k :: ks, b, o, h => rel_fold ks _ _ (rel_step k h)
theorem nx_same {W Hh : Nat} {H : List Nat} (h : H.all finW = true) (a : Nat) : nxS W Hh H a = nxI W Hh H a := by
  have hlt : ∀ k b, ltF (H.getD k 0) (H.getD b 0) = decide (valF (H.getD k 0) < valF (H.getD b 0)) := fun k b => lt_fin (fin_get h k) (fin_get h b)
  obtain ⟨V, hV⟩ : ∃ V : Nat → Int, ∀ k, V k = valF (H.getD k 0) := ⟨_, fun _ => rfl⟩
  have eS : (fun b k => if ltF (H.getD k 0) (H.getD b 0) then k else b) = fS V := by
    funext b k
    unfold fS
    rw [hlt, hV, hV]
    simp
  have eI : (fun (o : Option Nat) k => match o with | none => some k | some b => if ltF (H.getD k 0) (H.getD b 0) then some k else some b) = fI V := by
    funext o k
    unfold fI
    cases o with
    | none => rfl
    | some b =>
      simp only
      rw [hlt, hV, hV]
      simp
  have h1 := rel_fold (V := V) (a := a) (nbs W Hh a) a none rfl
  have e1 : bestS H a (nbs W Hh a) = (nbs W Hh a).foldl (fS V) a := by unfold bestS; rw [eS]
  have e2 : lowI H (nbs W Hh a) = (nbs W Hh a).foldl (fI V) none := by unfold lowI; rw [eI]
  unfold nxS nxI
  rw [← e1, ← e2] at h1
  generalize bestS H a (nbs W Hh a) = b at h1
  generalize lowI H (nbs W Hh a) = o at h1
  cases o with
  | none =>
    have h1 : b = a := h1
    rw [if_pos h1]
  | some l =>
    have h1 : (V l < V a ∧ b = l) ∨ (V a ≤ V l ∧ b = a) := h1
    simp only
    rw [hlt, ← hV, ← hV]
    rcases h1 with ⟨q, rfl⟩ | ⟨q, rfl⟩
    · rw [if_neg (by rintro rfl; omega)]
      simp [q]
    · rw [if_pos rfl, if_neg (by simp; omega)]
/-- One step of a drop, its operations as the model gives them. -/
def StepR (tk lv : Nat) (H : List Nat) (a low c : Nat) (H' : List Nat) (c' : Nat) : Prop :=
  ∃ d t h1 c1 l h2, FR .sub (H.getD a 0) (H.getD low 0) d ∧ FR .mul tk d t ∧ FR .sub (H.getD a 0) t h1 ∧ FR .add c t c1 ∧ FR .mul lv c1 l ∧ FR .add h1 l h2 ∧ FR .sub c1 l c' ∧ H' = H.set a h2
inductive Run (nx : List Nat → Nat → Option Nat) (tk lv : Nat) : Nat → List Nat → Nat → Nat → List Nat → Nat → Prop
  | stop {k H a c r} : (k = 0 ∨ nx H a = none) → FR .add (H.getD a 0) c r → Run nx tk lv k H a c (H.set a r) 0
  | step {k H a c low H' c' Hf n} : nx H a = some low → StepR tk lv H a low c H' c' → Run nx tk lv k H' low c' Hf n → Run nx tk lv (k + 1) H a c Hf (n + 1)
theorem sub_or : (BinOp.sub : BinOp) = .add ∨ (BinOp.sub : BinOp) = .sub ∨ (BinOp.sub : BinOp) = .mul := .inr (.inl rfl)
theorem add_or : (BinOp.add : BinOp) = .add ∨ (BinOp.add : BinOp) = .sub ∨ (BinOp.add : BinOp) = .mul := .inl rfl
theorem mul_or : (BinOp.mul : BinOp) = .add ∨ (BinOp.mul : BinOp) = .sub ∨ (BinOp.mul : BinOp) = .mul := .inr (.inr rfl)
theorem all_set_bad {H : List Nat} {a x : Nat} (ha : a < H.length) (hx : finW x = false) : (H.set a x).all finW = false := by
  rw [List.all_eq_false]
  exact ⟨x, List.mem_of_getElem? (i := a) (by rw [List.getElem?_set_self ha]), by rw [hx]; decide⟩
theorem all_bad {H : List Nat} (h : H.all finW = false) : ∃ k, k < H.length ∧ finW (H.getD k 0) = false := by
  rw [List.all_eq_false] at h
  obtain ⟨x, hx, hf⟩ := h
  obtain ⟨k, hk⟩ := List.getElem?_of_mem hx
  refine ⟨k, (List.getElem?_eq_some_iff.1 hk).1, ?_⟩
  rw [List.getD_eq_getElem?_getD, hk]
  simpa using hf
theorem bad_of {H : List Nat} {k : Nat} (hk : k < H.length) (hf : finW (H.getD k 0) = false) : H.all finW = false := by
  rw [List.all_eq_false]
  refine ⟨H.getD k 0, ?_, by rw [hf]; decide⟩
  rw [List.getD_eq_getElem?_getD, List.getElem?_eq_getElem hk]
  exact List.getElem_mem hk
theorem getD_set_ne' {H : List Nat} {a k x : Nat} (h : a ≠ k) : (H.set a x).getD k 0 = H.getD k 0 := by
  rw [List.getD_eq_getElem?_getD, List.getD_eq_getElem?_getD, List.getElem?_set_ne h]
/-- A height set by a sum with what is not finite, or of such a one. -/
theorem set_bad {H : List Nat} {a x : Nat} (ha : a < H.length) (h : H.all finW = false ∨ finW x = false) (hx : finW (H.getD a 0) = false → finW x = false) : (H.set a x).all finW = false := by
  rcases h with h | h
  · obtain ⟨k, hk, hf⟩ := all_bad h
    by_cases e : a = k
    · subst e
      exact all_set_bad ha (hx hf)
    · exact bad_of (k := k) (by simpa using hk) (by rw [getD_set_ne' e]; exact hf)
  · exact all_set_bad ha h
theorem step_bad {tk lv : Nat} {H H' : List Nat} {a low c c' : Nat} (h : StepR tk lv H a low c H' c') (ha : a < H.length) (hb : H.all finW = false ∨ finW c = false) : H'.all finW = false := by
  obtain ⟨d, t, h1, c1, l, h2, k1, k2, k3, k4, k5, k6, k7, rfl⟩ := h
  have hc : finW c = false → finW h2 = false := fun hc => k6.bad add_or (.inr (k5.bad mul_or (.inr (k4.bad add_or (.inl hc)))))
  refine set_bad ha (hb.imp id hc) (fun e => k6.bad add_or (.inl (k3.bad sub_or (.inl e))))
theorem step_len {tk lv : Nat} {H H' : List Nat} {a low c c' : Nat} (h : StepR tk lv H a low c H' c') : H'.length = H.length := by
  obtain ⟨d, t, h1, c1, l, h2, _, _, _, _, _, _, _, rfl⟩ := h
  simp
theorem run_bad {nx : List Nat → Nat → Option Nat} {tk lv N : Nat} (hnx : ∀ H a low, H.length = N → a < N → nx H a = some low → low < N) {k : Nat} {H : List Nat} {a c : Nat} {Hf : List Nat} {n : Nat} (h : Run nx tk lv k H a c Hf n) :
    H.length = N → a < N → (H.all finW = false ∨ finW c = false) → Hf.all finW = false := by
  induction h with
  | stop _ hr =>
    intro hN ha hb
    exact set_bad (by omega) (hb.imp id fun hc => hr.bad add_or (.inr hc)) (fun e => hr.bad add_or (.inl e))
  | step hn hs _ ih =>
    intro hN ha hb
    exact ih (by rw [step_len hs]; exact hN) (hnx _ _ _ hN ha hn) (.inl (step_bad hs (by omega) hb))
theorem run_len {nx : List Nat → Nat → Option Nat} {tk lv k : Nat} {H : List Nat} {a c : Nat} {Hf : List Nat} {n : Nat} (h : Run nx tk lv k H a c Hf n) : Hf.length = H.length := by
  induction h with
  | stop _ _ => simp
  | step _ hs _ ih => rw [ih, step_len hs]
theorem step_same {tk lv : Nat} {H H' H'' : List Nat} {a low c c' c'' : Nat} (h : StepR tk lv H a low c H' c') (h' : StepR tk lv H a low c H'' c'') (ha : a < H.length) (hf : H.all finW = true) (hc : finW c = true) :
    (H' = H'' ∧ c' = c'') ∨ (H'.all finW = false ∧ H''.all finW = false) := by
  obtain ⟨d, t, h1, c1, l, h2, k1, k2, k3, k4, k5, k6, k7, rfl⟩ := h
  obtain ⟨d', t', h1', c1', l', h2', j1, j2, j3, j4, j5, j6, j7, rfl⟩ := h'
  have fa := fin_get hf a
  have fl := fin_get hf low
  have ed : d = d' := by have := k1.fin sub_or fa fl; rw [j1.fin sub_or fa fl] at this; injection this with this; exact this.symm
  subst ed
  have same : ∀ {op : BinOp} {x y r r' : Nat}, (op = .add ∨ op = .sub ∨ op = .mul) → FR op x y r → FR op x y r' → finW x = true → finW y = true → r = r' := fun ho q q' hx hy => by
    have := q.fin ho hx hy
    rw [q'.fin ho hx hy] at this
    injection this with this
    exact this.symm
  have bad : finW h2 = false → finW h2' = false → (H.set a h2).all finW = false ∧ (H.set a h2').all finW = false := fun q q' => ⟨all_set_bad ha q, all_set_bad ha q'⟩
  by_cases ft : finW t = true ∧ finW t' = true
  rotate_left
  · right
    by_cases fd : finW tk = true ∧ finW d = true
    · have et := same mul_or k2 j2 fd.1 fd.2
      subst et
      have ft' : finW t = false := by cases h : finW t <;> simp_all
      exact bad (k6.bad add_or (.inl (k3.bad sub_or (.inr ft')))) (j6.bad add_or (.inl (j3.bad sub_or (.inr ft'))))
    · have fd' : finW tk = false ∨ finW d = false := by cases h1 : finW tk <;> cases h2 : finW d <;> simp_all
      exact bad (k6.bad add_or (.inl (k3.bad sub_or (.inr (k2.bad mul_or fd'))))) (j6.bad add_or (.inl (j3.bad sub_or (.inr (j2.bad mul_or fd')))))
  by_cases fd : finW tk = true ∧ finW d = true
  rotate_left
  · have fd' : finW tk = false ∨ finW d = false := by cases h1 : finW tk <;> cases h2 : finW d <;> simp_all
    have := k2.bad mul_or fd'
    rw [this] at ft
    cases ft.1
  have et := same mul_or k2 j2 fd.1 fd.2
  subst et
  have eh := same sub_or k3 j3 fa ft.1
  subst eh
  have ec := same add_or k4 j4 hc ft.1
  subst ec
  by_cases fc : finW lv = true ∧ finW c1 = true
  rotate_left
  · have fc' : finW lv = false ∨ finW c1 = false := by cases h1 : finW lv <;> cases h2 : finW c1 <;> simp_all
    exact .inr (bad (k6.bad add_or (.inr (k5.bad mul_or fc'))) (j6.bad add_or (.inr (j5.bad mul_or fc'))))
  have el := same mul_or k5 j5 fc.1 fc.2
  subst el
  by_cases fh : finW h1 = true ∧ finW l = true
  rotate_left
  · have fh' : finW h1 = false ∨ finW l = false := by cases q1 : finW h1 <;> cases q2 : finW l <;> simp_all
    exact .inr (bad (k6.bad add_or fh') (j6.bad add_or fh'))
  have e2 := same add_or k6 j6 fh.1 fh.2
  subst e2
  exact .inl ⟨rfl, same sub_or k7 j7 fc.2 fh.2⟩
theorem run_split {nx : List Nat → Nat → Option Nat} {tk lv k : Nat} {H : List Nat} {a c : Nat} {Hf : List Nat} {n : Nat} (_ : Run nx tk lv k H a c Hf n) : (H.all finW = true ∧ finW c = true) ∨ (H.all finW = false ∨ finW c = false) := by
  cases q1 : H.all finW <;> cases q2 : finW c <;> simp
/-- The two runs end alike, or both end with a height that is not finite. -/
theorem run_same {nx nx' : List Nat → Nat → Option Nat} {tk lv N : Nat} (hag : ∀ H a, H.all finW = true → nx H a = nx' H a) {k : Nat} {H : List Nat} {a c : Nat} {Hf : List Nat} {n : Nat} (h : Run nx tk lv k H a c Hf n)
    (hS : ∀ H a low, H.length = N → a < N → nx H a = some low → low < N) (hI : ∀ H a low, H.length = N → a < N → nx' H a = some low → low < N) :
    ∀ {Hf' : List Nat} {n' : Nat}, H.length = N → a < N → H.all finW = true → finW c = true → Run nx' tk lv k H a c Hf' n' → (Hf = Hf' ∧ n = n') ∨ (Hf.all finW = false ∧ Hf'.all finW = false) := by
  induction h with
  | stop h0 hr =>
    intro Hf' n' hlen ha hf hc h'
    cases h' with
    | stop _ hr' =>
      have e := hr.fin add_or (fin_get hf _) hc
      rw [hr'.fin add_or (fin_get hf _) hc] at e
      injection e with e
      subst e
      exact .inl ⟨rfl, rfl⟩
    | step hn _ _ =>
      rcases h0 with h0 | h0
      · cases h0
      · rw [hag _ _ hf, hn] at h0
        cases h0
  | step hn hs hrun ih =>
    intro Hf' n' hlen ha hf hc h'
    cases h' with
    | stop h0 _ =>
      rcases h0 with h0 | h0
      · cases h0
      · rw [hag _ _ hf, h0] at hn
        cases hn
    | step hn' hs' hrun' =>
      rw [← hag _ _ hf, hn] at hn'
      injection hn' with e
      subst e
      have hlow := hS _ _ _ hlen ha hn
      have l1 := step_len hs
      have l2 := step_len hs'
      rcases step_same hs hs' (by omega) hf hc with ⟨rfl, rfl⟩ | ⟨b1, b2⟩
      · rcases run_split hrun with hg | hg'
        · rcases ih (by omega) hlow hg.1 hg.2 hrun' with ⟨rfl, rfl⟩ | hb
          · exact .inl ⟨rfl, rfl⟩
          · exact .inr hb
        · exact .inr ⟨run_bad hS hrun (by omega) hlow hg', run_bad hI hrun' (by omega) hlow hg'⟩
      · exact .inr ⟨run_bad hS hrun (by omega) hlow (.inl b1), run_bad hI hrun' (by omega) hlow (.inl b2)⟩
theorem best_mem (H : List Nat) (a : Nat) (ks : List Nat) : bestS H a ks = a ∨ bestS H a ks ∈ ks := by
  unfold bestS
  have key : ∀ (ks : List Nat) (b : Nat), ks.foldl (fun b k => if ltF (H.getD k 0) (H.getD b 0) then k else b) b = b ∨ ks.foldl (fun b k => if ltF (H.getD k 0) (H.getD b 0) then k else b) b ∈ ks := by
    intro ks
    induction ks with
    | nil => intro b; exact .inl rfl
    | cons k ks ih =>
      intro b
      rw [List.foldl_cons]
      rcases ih (if ltF (H.getD k 0) (H.getD b 0) then k else b) with h | h
      · rw [h]
        split
        · exact .inr (by simp)
        · exact .inl rfl
      · exact .inr (List.mem_cons_of_mem _ h)
  exact key ks a
theorem low_mem (H : List Nat) (ks : List Nat) {l : Nat} (h : lowI H ks = some l) : l ∈ ks := by
  have key : ∀ (ks : List Nat) (o : Option Nat) (l : Nat), ks.foldl (fun o k => match o with | none => some k | some b => if ltF (H.getD k 0) (H.getD b 0) then some k else some b) o = some l → o = some l ∨ l ∈ ks := by
    intro ks
    induction ks with
    | nil => intro o l h; exact .inl h
    | cons k ks ih =>
      intro o l h
      rw [List.foldl_cons] at h
      rcases ih _ l h with h | h
      · cases o with
        | none =>
          simp only at h
          injection h with h
          exact .inr (by simp [h])
        | some b =>
          simp only at h
          split at h
          · injection h with h
            exact .inr (by simp [h])
          · exact .inl h
      · exact .inr (by simp [h])
  rcases key ks none l h with h | h
  · cases h
  · exact h
theorem nxS_lt {W Hh : Nat} {H : List Nat} {a low : Nat} (ha : a < W * Hh) (h : nxS W Hh H a = some low) : low < W * Hh := by
  unfold nxS at h
  split at h
  · cases h
  · rename_i hne
    injection h with h
    rcases best_mem H a (nbs W Hh a) with e | e
    · exact absurd e hne
    · rw [h] at e
      exact nbs_lt ha e
theorem nxI_lt {W Hh : Nat} {H : List Nat} {a low : Nat} (ha : a < W * Hh) (h : nxI W Hh H a = some low) : low < W * Hh := by
  unfold nxI at h
  split at h
  · cases h
  · rename_i b hb
    split at h
    · injection h with h
      subst h
      exact nbs_lt ha (low_mem H _ hb)
    · cases h
/-- A rule of choice that is the reference's on finite heights. -/
def NxOk (W Hh : Nat) (nx : List Nat → Nat → Option Nat) : Prop := (∀ H a, H.all finW = true → nx H a = nxS W Hh H a) ∧ ∀ H a low, a < W * Hh → nx H a = some low → low < W * Hh
theorem nxOk_S (W Hh : Nat) : NxOk W Hh (nxS W Hh) := ⟨fun _ _ _ => rfl, fun _ _ _ h1 h2 => nxS_lt h1 h2⟩
theorem nxOk_I (W Hh : Nat) : NxOk W Hh (nxI W Hh) := ⟨fun _ a h => (nx_same h a).symm, fun _ _ _ h1 h2 => nxI_lt h1 h2⟩
theorem run_det {W Hh tk lv k : Nat} {nx nx' : List Nat → Nat → Option Nat} {H : List Nat} {a : Nat} {Hf Hf' : List Nat} {n n' : Nat} (o : NxOk W Hh nx) (o' : NxOk W Hh nx') (hl : H.length = W * Hh) (ha : a < W * Hh) (hf : H.all finW = true)
    (h : Run nx tk lv k H a 0 Hf n) (h' : Run nx' tk lv k H a 0 Hf' n') : (Hf = Hf' ∧ n = n') ∨ (Hf.all finW = false ∧ Hf'.all finW = false) :=
  run_same (N := W * Hh) (fun H a q => (o.1 H a q).trans (o'.1 H a q).symm) h (fun _ _ _ _ h1 h2 => o.2 _ _ _ h1 h2) (fun _ _ _ _ h1 h2 => o'.2 _ _ _ h1 h2) hl ha hf (by decide) h'
end Go.Proofs.Ytoibgpmpngccjaa

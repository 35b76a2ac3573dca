/- Walks: whether a grammar is valid, by the program and by the reference. Condition: texts are shorter than 2^63. -/
import Derived.Test.YthgdikdcbkhgjaaDoorGw
import Derived.Test.YthgdikdcbkhgjaaDoorBlk
import Derived.Deep.QuietTactic
import Derived.BigQuiet
import Derived.Deep.RegionHeld3
namespace Go.Proofs.YthgdikdcbkhgjaaDoor
open Go.RowKit

/-- A rule's two texts as cells; a list of rules as cells. -/
def rcells (rs : List (ByteArray × ByteArray)) : List Value := rs.flatMap fun r => [.string r.1, .string r.2]
theorem rcells_len (rs : List (ByteArray × ByteArray)) : (rcells rs).length = rs.length * 2 := by
  unfold rcells
  induction rs with
  | nil => rfl
  | cons r rs ih => rw [List.flatMap_cons, List.length_append, ih, List.length_cons]; simp; omega
theorem rcells_get (rs : List (ByteArray × ByteArray)) : ∀ (k : Nat) (r : ByteArray × ByteArray), rs[k]? = some r → (rcells rs)[k * 2]? = some (.string r.1) ∧ (rcells rs)[k * 2 + 1]? = some (.string r.2) := by
  induction rs with
  | nil => intro k r h; simp at h
  | cons q rs ih =>
    intro k r h
    unfold rcells
    rw [List.flatMap_cons]
    cases k with
    | zero =>
      simp at h
      subst h
      exact ⟨rfl, rfl⟩
    | succ k =>
      have := ih k r (by simpa using h)
      unfold rcells at this
      rw [show (k + 1) * 2 = k * 2 + 1 + 1 from by omega]
      exact this
theorem rcells_all (rs : List (ByteArray × ByteArray)) : ∀ v ∈ rcells rs, ∃ s, v = .string s := by
  intro v hv
  unfold rcells at hv
  rw [List.mem_flatMap] at hv
  obtain ⟨(r : ByteArray × ByteArray), _, h⟩ := hv
  simp at h
  rcases h with rfl | rfl
  · exact ⟨_, rfl⟩
  · exact ⟨_, rfl⟩
/-- Texts that a machine can hold. -/
def Fits (rs : List (ByteArray × ByteArray)) : Prop := ∀ (k : Nat) (r : ByteArray × ByteArray), rs[k]? = some r → r.1.size ≤ maxLen ∧ r.2.size ≤ maxLen

def leB (a b : ByteArray) : Bool := Op.bytesLess a.toList b.toList || a.toList == b.toList
/-- Whether rule k is valid, and behind the one before. -/
def okRule (rs : List (ByteArray × ByteArray)) (k : Nat) : Bool :=
  ruleB (rs.getD k (⟨#[]⟩, ⟨#[]⟩)).1 (rs.getD k (⟨#[]⟩, ⟨#[]⟩)).2 && !(decide (0 < k) && leB (rs.getD k (⟨#[]⟩, ⟨#[]⟩)).1 (rs.getD (k - 1) (⟨#[]⟩, ⟨#[]⟩)).1)
def okRules (rs : List (ByteArray × ByteArray)) (k : Nat) : Bool := (List.range k).all (okRule rs)
theorem okRules_zero (rs : List (ByteArray × ByteArray)) : okRules rs 0 = true := rfl
theorem okRules_succ (rs : List (ByteArray × ByteArray)) (k : Nat) : okRules rs (k + 1) = (okRules rs k && okRule rs k) := by unfold okRules; rw [List.range_succ, List.all_append]; simp
theorem okRules_no {rs : List (ByteArray × ByteArray)} {k n : Nat} (h : okRule rs k = false) (hk : k < n) : okRules rs n = false := by
  unfold okRules
  rw [List.all_eq_false]
  exact ⟨k, by simpa using hk, by rw [h]; simp⟩
def validG (s : ByteArray) (rs : List (ByteArray × ByteArray)) : Bool := wordB s 32 && decide (rs.length ≤ 8) && okRules rs rs.length

set_option maxRecDepth 100000 in
set_option maxHeartbeats 400000 in
theorem l04Rule_any (l t : ByteArray) (b off : Nat) (w : World) (hl : l.size ≤ maxLen) (ht : t.size ≤ maxLen) (c0 : w.cell? ⟨b, off, none⟩ = some (.string l)) (c1 : w.cell? ⟨b, off + 1, none⟩ = some (.string t)) :
    Calls Tryd.prog 59 #[.pointer (some ⟨b, off, none⟩)] w fun e w' => e = .returned (.bool (ruleB l t)) ∧ w' = w := by
  have WC := Lib.hid (fun w => l04Word_any t 32 w ht)
  unfold maxLen at hl ht
  by_cases h1 : l.size = 1
  · have hpos : 0 < l.size := by omega
    have hx : l[0].toNat ≤ 255 := by have := l[0].toNat_lt; omega
    have HR : Hid (ruleB l t = (letterN l[0].toNat && wordB t 32)) := by unfold Hid ruleB; rw [first_byte hpos]; simp [h1]
    obtain ⟨x, ex⟩ : ∃ x : Nat, l[0].toNat = x := ⟨_, rfl⟩
    rw [ex] at HR hx
    have h1' : ((l.size : Int) == 1) = true := by simp [h1]
    by_cases h2 : 65 ≤ x
    · by_cases h3 : x ≤ 90
      · have HS : Hid (ruleB l t = wordB t 32) := by rw [HR.out, show letterN x = true from by unfold letterN; simp; omega]; rfl
        clear h1
        go_enter Tryd.func59, Tryd.ntmps59
        go_wp2_with fail
        refine (WC.out _).mono ?_
        rintro e w5 ⟨rfl, h5⟩
        obtain rfl := h5.symm
        generalize wordB t 32 = q at *
        go_wp2
        go_ret
        exact ⟨ret_bool (by rw [HS.out]), rfl⟩
      · have HS : Hid (ruleB l t = false) := by rw [HR.out, show letterN x = false from by unfold letterN; simp; omega]; rfl
        clear h1
        go_enter Tryd.func59, Tryd.ntmps59
        go_wp2
        go_ret
        exact ⟨ret_bool HS.out.symm, rfl⟩
    · have HS : Hid (ruleB l t = false) := by rw [HR.out, show letterN x = false from by unfold letterN; simp; omega]; rfl
      clear h1
      go_enter Tryd.func59, Tryd.ntmps59
      go_wp2
      go_ret
      exact ⟨ret_bool HS.out.symm, rfl⟩
  · have HS : Hid (ruleB l t = false) := by unfold Hid ruleB; simp [h1]
    have h1' : ((l.size : Int) == 1) = false := by simp; omega
    go_enter Tryd.func59, Tryd.ntmps59
    go_wp2
    go_ret
    exact ⟨ret_bool HS.out.symm, rfl⟩
set_option maxRecDepth 100000 in
set_option maxHeartbeats 400000 in
theorem isRule_any (l t : ByteArray) (w : World) (hl : l.size ≤ maxLen) (ht : t.size ≤ maxLen) :
    Calls Tryd.prog 47 #[.agg #[.string l, .string t]] w fun e w' => e = .returned (.bool (ruleB l t)) ∧ Below w.heap.size w w' := by
  have B0 : Hid (Below w.heap.size w (w.alloc (.cells #[.string l, .string t] 45))) := (Below.refl _ _).alloc (Nat.le_refl _) _
  have WC := Lib.hid (fun w => isShortWord_any t w ht)
  unfold maxLen at hl ht
  by_cases h1 : l.size = 1
  · have hpos : 0 < l.size := by omega
    have hx : l[0].toNat ≤ 255 := by have := l[0].toNat_lt; omega
    have HR : Hid (ruleB l t = (letterN l[0].toNat && wordB t 32)) := by unfold Hid ruleB; rw [first_byte hpos]; simp [h1]
    obtain ⟨x, ex⟩ : ∃ x : Nat, l[0].toNat = x := ⟨_, rfl⟩
    rw [ex] at HR hx
    have h1' : ((l.size : Int) == 1) = true := by simp [h1]
    have LC := Lib.hid (fun w => isLetter_any x w hx)
    obtain ⟨q0, hq0⟩ : ∃ q0, letterN x = q0 := ⟨_, rfl⟩
    rw [hq0] at LC HR
    clear h1 hq0
    cases q0
    · go_enter Tryd.func47, Tryd.ntmps47
      go_wp2_with fail
      refine (LC.out _).mono ?_
      rintro e w5 ⟨rfl, h5⟩
      obtain rfl := h5.symm
      go_wp2
      go_ret
      exact ⟨ret_bool (by rw [HR.out]; rfl), B0.out⟩
    · go_enter Tryd.func47, Tryd.ntmps47
      go_wp2_with fail
      refine (LC.out _).mono ?_
      rintro e w5 ⟨rfl, h5⟩
      obtain rfl := h5.symm
      go_wp2_with fail
      refine (WC.out _).mono ?_
      rintro e w5 ⟨rfl, h5⟩
      obtain rfl := h5.symm
      generalize wordB t 32 = q at *
      go_wp2
      go_ret
      exact ⟨ret_bool (by rw [HR.out]; simp), B0.out⟩
  · have HS : Hid (ruleB l t = false) := by unfold Hid ruleB; simp [h1]
    have h1' : ((l.size : Int) == 1) = false := by simp; omega
    go_enter Tryd.func47, Tryd.ntmps47
    go_wp2
    go_ret
    exact ⟨ret_bool HS.out.symm, B0.out⟩
theorem getD_of {α : Type} {l : List α} {k : Nat} {r d : α} (h : l[k]? = some r) : l.getD k d = r := by rw [List.getD_eq_getElem?_getD, h]; rfl
theorem okRule_bad {rs : List (ByteArray × ByteArray)} {k : Nat} {r : ByteArray × ByteArray} (h : rs[k]? = some r) (hr : ruleB r.1 r.2 = false) : okRule rs k = false := by
  unfold okRule; rw [getD_of h, hr]; rfl
theorem okRule_zero {rs : List (ByteArray × ByteArray)} {r : ByteArray × ByteArray} (h : rs[0]? = some r) (hr : ruleB r.1 r.2 = true) : okRule rs 0 = true := by
  unfold okRule; rw [getD_of h, hr]; rfl
theorem okRule_next {rs : List (ByteArray × ByteArray)} {k : Nat} {r r' : ByteArray × ByteArray} (h : rs[k + 1]? = some r) (h' : rs[k]? = some r') (hr : ruleB r.1 r.2 = true) : okRule rs (k + 1) = !leB r.1 r'.1 := by
  unfold okRule; rw [getD_of h, show k + 1 - 1 = k from rfl, getD_of h', hr]; simp

set_option maxRecDepth 100000 in
set_option maxHeartbeats 4000000 in
theorem l04Is_any (s0 : ByteArray) (rs : List (ByteArray × ByteArray)) (A : Option Addr) (n c g B : Nat) (w : World) (hs : s0.size ≤ maxLen) (hn : n ≤ maxLen) (hl : rs.length = n) (hf : Fits rs)
    (hbk : Blk w g 24 #[.string s0, .slice A n c]) (hA : Rd w B 2 A n (rcells rs)) :
    Calls Tryd.prog 44 #[.pointer (some ⟨g, 0, none⟩)] w fun e w' => e = .returned (.bool (validG s0 rs)) ∧ ∃ m, w' = w.drewN m := by
  have WC := Lib.hid (fun w => l04Word_any s0 32 w hs)
  have c0 : w.cell? ⟨g, 0, none⟩ = some (.string s0) := hbk.cell 0
  have c1 : w.cell? ⟨g, 1, none⟩ = some (.slice A n c) := hbk.cell 1
  have HA := Lib.hid hA
  have HL := Lib.hid hl
  have HF := Lib.hid hf
  unfold maxLen at hn
  obtain ⟨q, hq⟩ : ∃ q, wordB s0 32 = q := ⟨_, rfl⟩
  rw [hq] at WC
  have HQ := Lib.hid hq
  clear hq hbk hA hl hf
  cases q
  · have HS : Hid (validG s0 rs = false) := by unfold Hid validG; rw [HQ.out]; rfl
    go_enter Tryd.func44, Tryd.ntmps44
    go_wp2_with fail
    refine (WC.out _).mono ?_
    rintro e w5 ⟨rfl, h5⟩
    obtain rfl := h5.symm
    go_wp2
    go_ret
    exact ⟨ret_bool HS.out.symm, 0, rfl⟩
  by_cases h8 : n ≤ 8
  rotate_left
  · have HS : Hid (validG s0 rs = false) := by unfold Hid validG; rw [HL.out, show decide (n ≤ 8) = false from by simp; omega]; simp
    go_enter Tryd.func44, Tryd.ntmps44
    go_wp2_with fail
    refine (WC.out _).mono ?_
    rintro e w5 ⟨rfl, h5⟩
    obtain rfl := h5.symm
    go_wp2
    go_ret
    exact ⟨ret_bool HS.out.symm, 0, rfl⟩
  have HV : Hid (validG s0 rs = okRules rs n) := by unfold Hid validG; rw [HQ.out, HL.out, show decide (n ≤ 8) = true from by simp; omega]; rfl
  go_enter Tryd.func44, Tryd.ntmps44
  go_wp2_with fail
  refine (WC.out _).mono ?_
  rintro e w5 ⟨rfl, h5⟩
  obtain rfl := h5.symm
  go_wp2
  go_loopw [3] (fun si wr => ∃ k m : Nat, k ≤ n ∧ si = .int .i64 k ∧ wr = w.drewN m ∧ Hid (okRules rs k = true)) (fun si _ => n - (intOf si).toNat)
  case atStart => exact ⟨0, 0, Nat.zero_le _, rfl, rfl, okRules_zero rs⟩
  case round =>
    obtain ⟨k, m, hk, rfl, hwr, HOK⟩ := hrel
    have d0 : wr.cell? ⟨g, 0, none⟩ = some (.string s0) := hwr ▸ c0
    have d1 : wr.cell? ⟨g, 1, none⟩ = some (.slice A n c) := hwr ▸ c1
    by_cases hlt : k < n
    · obtain ⟨b, off, rfl, hbb, hc⟩ := HA.out.2 (by omega)
      obtain ⟨r, hr⟩ : ∃ r, rs[k]? = some r := ⟨_, List.getElem?_eq_getElem (by rw [HL.out]; exact hlt)⟩
      obtain ⟨q1, q2⟩ := rcells_get rs k r hr
      have e0 : wr.cell? ⟨b, off + k * 2, none⟩ = some (.string r.1) := hwr ▸ hc _ _ q1
      have e1 : wr.cell? ⟨b, off + k * 2 + 1, none⟩ = some (.string r.2) := hwr ▸ hc _ _ q2
      obtain ⟨f1, f2⟩ := HF.out k r hr
      have RC := Lib.hid (fun m => l04Rule_any r.1 r.2 b (off + k * 2) (wr.drewN m) f1 f2 e0 e1)
      obtain ⟨p, hp⟩ : ∃ p, ruleB r.1 r.2 = p := ⟨_, rfl⟩
      rw [hp] at RC
      have HP := Lib.hid hp
      have HR := Lib.hid hr
      have HWR := Lib.hid hwr
      have HC := Lib.hid hc
      have hsu := okRules_succ rs k
      rw [HOK.out, Bool.true_and] at hsu
      have HSU := Lib.hid hsu
      have hki : (k : Int) < (n : Int) := by omega
      obtain ⟨l, t⟩ := r
      simp only at e0 e1
      clear hp hr hwr hc q1 q2 f1 f2 hsu
      cases p
      · have HS : Hid (validG s0 rs = false) := by rw [HV.out]; exact okRules_no (okRule_bad HR.out HP.out) hlt
        go_wp2
        go_quiet ((go_at_call 59; exact Calls.quiet_of_same (RC.out _)))
        go_wp2
        go_ret
        exact ⟨ret_bool HS.out.symm, _, by rw [HWR.out]; exact World.drewN_drewN _ _ _⟩
      · cases k with
        | zero =>
          have HS : Hid (okRules rs (0 + 1) = true) := by rw [HSU.out]; exact okRule_zero HR.out HP.out
          go_wp2
          go_quiet ((go_at_call 59; exact Calls.quiet_of_same (RC.out _)))
          go_wp2
          go_roundw
          case rel => exact ⟨1, _, by omega, by go_num, by rw [HWR.out]; exact World.drewN_drewN _ _ _, HS⟩
          case measure => simp [intOf]; omega
        | succ k =>
          obtain ⟨r', hr'⟩ : ∃ r, rs[k]? = some r := ⟨_, List.getElem?_eq_getElem (by rw [HL.out]; omega)⟩
          obtain ⟨q1', q2'⟩ := rcells_get rs k r' hr'
          have e2 : wr.cell? ⟨b, off + k * 2, none⟩ = some (.string r'.1) := by rw [HWR.out]; exact HC.out _ _ q1'
          have hnx := okRule_next HR.out hr' HP.out
          unfold leB at hnx
          obtain ⟨l', t'⟩ := r'
          simp only at e2 hnx
          obtain ⟨p1, hp1⟩ : ∃ p1, Op.bytesLess l.toList l'.toList = p1 := ⟨_, rfl⟩
          obtain ⟨p2, hp2⟩ : ∃ p2, (l.toList == l'.toList) = p2 := ⟨_, rfl⟩
          rw [hp1, hp2] at hnx
          have hsu := HSU.out
          rw [hnx] at hsu
          have HSU2 := Lib.hid hsu
          have HNX := Lib.hid hnx
          have hk0 : (0 : Int) ≤ (k : Int) := by omega
          have hk1 : ((k : Int) + 1 - 1) = (k : Int) := by omega
          have hk2 : IntKind.i64.wrap ((k : Int) + 1 - 1) = (k : Int) := by rw [hk1]; exact IntWalk.i64_in _ (by omega)
          have hkn : (k : Int) < (n : Int) := by omega
          have hkp : decide ((0 : Int) < (k : Int) + 1) = true := by first | (simp; done) | (simp; omega)
          clear q1' q2' hr' hsu hnx
          cases p1 <;> cases p2
          · have HS : Hid (okRules rs (k + 1 + 1) = true) := HSU2.out
            go_wp2
            go_quiet ((go_at_call 59; exact Calls.quiet_of_same (RC.out _)))
            go_wp2
            go_roundw
            case rel => exact ⟨k + 2, _, by omega, by go_num, by rw [HWR.out]; exact World.drewN_drewN _ _ _, HS⟩
            case measure => simp [intOf]; omega
          all_goals
            have HS : Hid (validG s0 rs = false) := by rw [HV.out]; exact okRules_no HNX.out hlt
            go_wp2
            go_quiet ((go_at_call 59; exact Calls.quiet_of_same (RC.out _)))
            go_wp2
            go_ret
            exact ⟨ret_bool HS.out.symm, _, by rw [HWR.out]; exact World.drewN_drewN _ _ _⟩
    · obtain rfl : k = n := by omega
      have HS : Hid (validG s0 rs = true) := by rw [HV.out]; exact HOK.out
      have HWR := Lib.hid hwr
      clear hwr
      go_wp2
      go_ret
      exact ⟨ret_bool HS.out.symm, m, HWR.out⟩
section
variable {P : Program} {ops : Array Oper} {C : World → Prop}
theorem q_read {o : Oper} {a : Act} {K : Act → Prop} (v : Value) (h : ∀ w, C w → (execOp a.eval o).run P w = .ok (.value v) w) (hk : K (a.put o.dst v)) : o.quiet P a C K :=
  ⟨v, fun w hw => by unfold Oper.quietAt; rw [h w hw]; exact ⟨rfl, rfl⟩, hk⟩
theorem q_call {o : Oper} {a : Act} {K : Act → Prop} (v : Value) (f : FuncId) (args : Array Value) (h : ∀ w, C w → (execOp a.eval o).run P w = .ok (.enter f args) w) (hc : ∀ w, C w → Calls P f args w fun e w'' => e = .returned v ∧ C w'') (hk : K (a.put o.dst v)) : o.quiet P a C K :=
  ⟨v, fun w hw => by unfold Oper.quietAt; rw [h w hw]; exact ⟨rfl, hc w hw⟩, hk⟩
theorem wp_region_class {id : Nat} {Q : Exit → Act → World → Prop} {a : Act} {w : World} {l : List Oper} (C : World → Prop) (hm : P.follows .mixedOrders = true) (hB : Region.lexB .any l.toArray = true) (hC : C w.drew)
    (h : wpQuiet P l.toArray C (fun a' => ∀ w', C w' → Q .normal a' w') l a) : (Code.region id l.toArray true).wp P Q a w :=
  wp_region_quiet (C := C) hm hB hC (by simpa using h)
end

set_option maxRecDepth 100000 in
set_option maxHeartbeats 4000000 in
theorem ValidGrammar_any (s0 : ByteArray) (rs : List (ByteArray × ByteArray)) (A : Option Addr) (n c B : Nat) (w : World) (hs : s0.size ≤ maxLen) (hn : n ≤ maxLen) (hB : B ≤ w.heap.size) (hl : rs.length = n) (hf : Fits rs)
    (hA : Rd w B 2 A n (rcells rs)) :
    Calls Tryd.prog 26 #[.agg #[.string s0, .slice A n c]] w fun e w' => e = .returned (.bool (validG s0 rs)) ∧ Below w.heap.size w w' := by
  have WC := Lib.hid (fun w => isShortWord_any s0 w hs)
  obtain ⟨v, ev⟩ : ∃ v, v = w.alloc (.cells #[.string s0, .slice A n c] 24) := ⟨_, rfl⟩
  have hbk : Blk v w.heap.size 24 #[.string s0, .slice A n c] := by rw [ev]; exact Blk.new w _ _
  have hB0 : Below w.heap.size w v := by rw [ev]; exact (Below.refl _ _).alloc (Nat.le_refl _) _
  have k0 : ∀ w', Below v.heap.size v w' → w'.cell? ⟨w.heap.size, 0, none⟩ = some (.string s0) ∧ w'.cell? ⟨w.heap.size, 1, none⟩ = some (.slice A n c) := fun w' h => ⟨(h.cell hbk.lt).trans (hbk.cell 0), (h.cell hbk.lt).trans (hbk.cell 1)⟩
  obtain ⟨c0, c1⟩ := k0 v (Below.refl _ _)
  have hvz : v.heap.size = w.heap.size + 1 := by rw [ev]; simp
  have hlt0 : w.heap.size < v.heap.size := by omega
  have hvA : Rd v v.heap.size 2 A n (rcells rs) := ((hA.more hB).below hB0).more (by omega)
  have HB0 := Lib.hid hB0
  have K0 := Lib.hid k0
  have HA := Lib.hid hvA
  have HL := Lib.hid hl
  have HF := Lib.hid hf
  have EV := Lib.hid ev
  unfold maxLen at hn
  rw [ev] at c0 c1
  clear hbk hA hl hf ev hB0 k0 hvA hvz
  go_enter Tryd.func26, Tryd.ntmps26
  go_wp2
  rw [← EV.out]
  clear c0 c1
  go_loopw [8] (fun si wr => ∃ k : Nat, k ≤ n ∧ si = .int .i64 k ∧ Below v.heap.size v wr ∧ Hid (okRules rs k = true)) (fun si _ => n - (intOf si).toNat)
  case atStart => exact ⟨0, Nat.zero_le _, rfl, Below.refl _ _, okRules_zero rs⟩
  case round =>
    obtain ⟨k, hk, rfl, hb, HOK⟩ := hrel
    obtain ⟨d0, d1⟩ := K0.out wr hb
    have hsz := hb.size
    have HB := Lib.hid hb
    by_cases hlt : k < n
    · obtain ⟨b, off, rfl, hbb, hc⟩ := HA.out.2 (by omega)
      obtain ⟨r, hr⟩ : ∃ r, rs[k]? = some r := ⟨_, List.getElem?_eq_getElem (by rw [HL.out]; exact hlt)⟩
      obtain ⟨q1, q2⟩ := rcells_get rs k r hr
      have e0 : wr.cell? ⟨b, off + k * 2, none⟩ = some (.string r.1) := (hb.cell hbb).trans (hc _ _ q1)
      have e1 : wr.cell? ⟨b, off + k * 2 + 1, none⟩ = some (.string r.2) := (hb.cell hbb).trans (hc _ _ q2)
      obtain ⟨f1, f2⟩ := HF.out k r hr
      have RC := Lib.hid (fun w => isRule_any r.1 r.2 w f1 f2)
      obtain ⟨p, hp⟩ : ∃ p, ruleB r.1 r.2 = p := ⟨_, rfl⟩
      rw [hp] at RC
      have HP := Lib.hid hp
      have HR := Lib.hid hr
      have HC := Lib.hid hc
      have hsu := okRules_succ rs k
      rw [HOK.out, Bool.true_and] at hsu
      have HSU := Lib.hid hsu
      have hki : (k : Int) < (n : Int) := by omega
      obtain ⟨l, t⟩ := r
      simp only at e0 e1 RC
      obtain ⟨vr, evr⟩ : ∃ vr, vr = wr.alloc (.cells #[.string l, .string t] 45) := ⟨_, rfl⟩
      have hbr : Below v.heap.size v vr := by rw [evr]; exact hb.alloc hsz _
      have bkr : Blk vr wr.heap.size 45 #[.string l, .string t] := by rw [evr]; exact Blk.new wr _ _
      have KR : Hid (∀ w', Below vr.heap.size vr w' → w'.cell? ⟨wr.heap.size, 0, none⟩ = some (.string l) ∧ w'.cell? ⟨wr.heap.size, 1, none⟩ = some (.string t) ∧ w'.cell? ⟨w.heap.size, 1, none⟩ = some (.slice (some ⟨b, off, none⟩) n c) ∧ Below v.heap.size v w') := fun w' h => by
        have hx := hbr.trans (h.mono hbr.size)
        exact ⟨(h.cell bkr.lt).trans (bkr.cell 0), (h.cell bkr.lt).trans (bkr.cell 1), (K0.out w' hx).2, hx⟩
      have EVR := Lib.hid evr
      have hszr : wr.heap.size < vr.heap.size := bkr.lt
      clear hp hr hc q1 q2 f1 f2 hsu evr hbr bkr hb
      cases p
      · have HS : Hid (validG s0 rs = false) := by
          unfold Hid validG
          rw [HL.out, okRules_no (okRule_bad HR.out HP.out) hlt, Bool.and_false]
        go_wp2
        rw [← EVR.out]
        obtain ⟨x0, x1, x2, x3⟩ := KR.out vr (Below.refl _ _)
        refine wp_region_class (fun w' => Below vr.heap.size vr w') (by kernel_rfl) (by kernel_rfl) (Below.refl _ _).drew ?_
        go_big_quiet_want
        refine q_read (.agg #[.string l, .string t]) (fun w' hw' => ?_) ?_
        · obtain ⟨y0, y1, y2, y3⟩ := KR.out w' hw'
          go_simp
        simp only [Act.put, List.setIfInBounds_toArray, List.set_cons_zero, List.set_cons_succ]
        go_big_quiet_on
        go_big_quiet_want
        refine q_call (.bool false) 47 #[.agg #[.string l, .string t]] (fun w' hw' => ?_) (fun w' hw' => ?_) ?_
        · go_simp
        · exact (RC.out w').mono fun e w'' h => ⟨h.1, hw'.trans (h.2.mono hw'.size)⟩
        simp only [Act.put, List.setIfInBounds_toArray, List.set_cons_zero, List.set_cons_succ]
        go_big_quiet_on
        go_big_quiet_want
        refine q_read (.bool true) (fun w' hw' => ?_) ?_
        · go_simp
        simp only [Act.put, List.setIfInBounds_toArray, List.set_cons_zero, List.set_cons_succ]
        go_big_quiet_on
        go_big_quiet_want
        go_big_quiet_op
        go_big_quiet_on
        go_big_quiet_skip
        go_big_quiet_skip
        go_big_quiet_skip
        go_big_quiet_skip
        go_big_quiet_skip
        go_big_quiet_skip
        go_big_quiet_skip
        go_big_quiet_skip
        go_big_quiet_skip
        go_big_quiet_skip
        go_big_quiet_skip
        go_big_quiet_skip
        go_big_quiet_skip
        go_big_quiet_skip
        go_big_quiet_want
        refine q_read (.bool true) (fun w' hw' => ?_) ?_
        · go_simp
        simp only [Act.put, List.setIfInBounds_toArray, List.set_cons_zero, List.set_cons_succ]
        go_big_quiet_on
        refine wpQuiet_nil ?_
        intro w' hw'
        have HW := Lib.hid (HB0.out.trans ((KR.out w' hw').2.2.2.mono (by omega)))
        clear x0 x1 x2 x3
        go_wp2
        go_ret
        exact ⟨ret_bool HS.out.symm, HW.out⟩
      · cases k with
        | zero =>
          have HS : Hid (okRules rs (0 + 1) = true) := by rw [HSU.out]; exact okRule_zero HR.out HP.out
          simp only [Nat.zero_mul, Nat.add_zero] at e0 e1
          go_wp2
          rw [← EVR.out]
          refine wp_region_class (fun w' => Below vr.heap.size vr w') (by kernel_rfl) (by kernel_rfl) (Below.refl _ _).drew ?_
          go_big_quiet_want
          refine q_read (.agg #[.string l, .string t]) (fun w' hw' => ?_) ?_
          · obtain ⟨y0, y1, y2, y3⟩ := KR.out w' hw'
            go_simp
          simp only [Act.put, List.setIfInBounds_toArray, List.set_cons_zero, List.set_cons_succ]
          go_big_quiet_on
          go_big_quiet_want
          refine q_call (.bool true) 47 #[.agg #[.string l, .string t]] (fun w' hw' => ?_) (fun w' hw' => ?_) ?_
          · go_simp
          · exact (RC.out w').mono fun e w'' h => ⟨h.1, hw'.trans (h.2.mono hw'.size)⟩
          simp only [Act.put, List.setIfInBounds_toArray, List.set_cons_zero, List.set_cons_succ]
          go_big_quiet_on
          go_big_quiet_want
          refine q_read (.bool false) (fun w' hw' => ?_) ?_
          · go_simp
          simp only [Act.put, List.setIfInBounds_toArray, List.set_cons_zero, List.set_cons_succ]
          go_big_quiet_on
          go_big_quiet_want
          go_big_quiet_op
          go_big_quiet_on
          go_big_quiet_want
          go_big_quiet_op
          go_big_quiet_on
          go_big_quiet_want
          refine q_read (.bool false) (fun w' hw' => ?_) ?_
          · go_simp
          simp only [Act.put, List.setIfInBounds_toArray, List.set_cons_zero, List.set_cons_succ]
          go_big_quiet_on
          go_big_quiet_want
          go_big_quiet_op
          go_big_quiet_on
          go_big_quiet_skip
          go_big_quiet_skip
          go_big_quiet_skip
          go_big_quiet_skip
          go_big_quiet_skip
          go_big_quiet_skip
          go_big_quiet_skip
          go_big_quiet_skip
          go_big_quiet_skip
          go_big_quiet_skip
          go_big_quiet_want
          refine q_read (.bool false) (fun w' hw' => ?_) ?_
          · go_simp
          simp only [Act.put, List.setIfInBounds_toArray, List.set_cons_zero, List.set_cons_succ]
          go_big_quiet_on
          go_big_quiet_want
          refine q_read (.bool false) (fun w' hw' => ?_) ?_
          · go_simp
          simp only [Act.put, List.setIfInBounds_toArray, List.set_cons_zero, List.set_cons_succ]
          go_big_quiet_on
          refine wpQuiet_nil ?_
          intro w' hw'
          have HW := Lib.hid ((KR.out w' hw').2.2.2)
          go_wp2
          go_roundw
          case rel => exact ⟨1, by omega, by go_num, HW.out, HS⟩
          case measure => simp [intOf]; omega
        | succ k =>
          obtain ⟨r', hr'⟩ : ∃ r, rs[k]? = some r := ⟨_, List.getElem?_eq_getElem (by rw [HL.out]; omega)⟩
          obtain ⟨q1', q2'⟩ := rcells_get rs k r' hr'
          have KP : Hid (∀ w', Below vr.heap.size vr w' → w'.cell? ⟨b, off + k * 2, none⟩ = some (.string r'.1)) := fun w' h => ((KR.out w' h).2.2.2.cell hbb).trans (HC.out _ _ q1')
          have hnx := okRule_next HR.out hr' HP.out
          unfold leB at hnx
          obtain ⟨l', t'⟩ := r'
          simp only at KP hnx
          obtain ⟨p1, hp1⟩ : ∃ p1, Op.bytesLess l.toList l'.toList = p1 := ⟨_, rfl⟩
          obtain ⟨p2, hp2⟩ : ∃ p2, (l.toList == l'.toList) = p2 := ⟨_, rfl⟩
          rw [hp1, hp2] at hnx
          have hsu := HSU.out
          rw [hnx] at hsu
          have HSU2 := Lib.hid hsu
          have HNX := Lib.hid hnx
          have hk0 : (0 : Int) ≤ (k : Int) := by omega
          have hk1 : ((k : Int) + 1 - 1) = (k : Int) := by omega
          have hk2 : IntKind.i64.wrap ((k : Int) + 1 - 1) = (k : Int) := by rw [hk1]; exact IntWalk.i64_in _ (by omega)
          have hk3 : IntKind.i64.wrap (k : Int) = (k : Int) := IntWalk.i64_in _ (by omega)
          have hkn : (k : Int) < (n : Int) := by omega
          have hkn' : k < n := by omega
          have hkp : decide ((0 : Int) < (k : Int) + 1) = true := by first | (simp; done) | (simp; omega)
          have hkp' : (0 : Int) < (k : Int) + 1 := by omega
          clear q1' q2' hr' hsu hnx
          cases p1 <;> cases p2
          · have HS : Hid (okRules rs (k + 1 + 1) = true) := HSU2.out
            go_wp2
            rw [← EVR.out]
            refine wp_region_class (fun w' => Below vr.heap.size vr w') (by kernel_rfl) (by kernel_rfl) (Below.refl _ _).drew ?_
            go_big_quiet_want
            refine q_read (.agg #[.string l, .string t]) (fun w' hw' => ?_) ?_
            · obtain ⟨y0, y1, y2, y3⟩ := KR.out w' hw'
              go_simp
            simp only [Act.put, List.setIfInBounds_toArray, List.set_cons_zero, List.set_cons_succ]
            go_big_quiet_on
            go_big_quiet_want
            refine q_call (.bool true) 47 #[.agg #[.string l, .string t]] (fun w' hw' => ?_) (fun w' hw' => ?_) ?_
            · go_simp
            · exact (RC.out w').mono fun e w'' h => ⟨h.1, hw'.trans (h.2.mono hw'.size)⟩
            simp only [Act.put, List.setIfInBounds_toArray, List.set_cons_zero, List.set_cons_succ]
            go_big_quiet_on
            go_big_quiet_want
            refine q_read (.bool false) (fun w' hw' => ?_) ?_
            · go_simp
            simp only [Act.put, List.setIfInBounds_toArray, List.set_cons_zero, List.set_cons_succ]
            go_big_quiet_on
            go_big_quiet_want
            go_big_quiet_op
            go_big_quiet_on
            go_big_quiet_want
            go_big_quiet_op
            go_big_quiet_on
            go_big_quiet_want
            refine q_read (.bool true) (fun w' hw' => ?_) ?_
            · go_simp
            simp only [Act.put, List.setIfInBounds_toArray, List.set_cons_zero, List.set_cons_succ]
            go_big_quiet_on
            go_big_quiet_want
            go_big_quiet_op
            go_big_quiet_on
            go_big_quiet_want
            refine q_read (.pointer (some ⟨wr.heap.size, 0, none⟩)) (fun w' hw' => ?_) ?_
            · go_simp
            simp only [Act.put, List.setIfInBounds_toArray, List.set_cons_zero, List.set_cons_succ]
            go_big_quiet_on
            go_big_quiet_want
            refine q_read (.string l) (fun w' hw' => ?_) ?_
            · obtain ⟨y0, y1, y2, y3⟩ := KR.out w' hw'
              go_simp
            simp only [Act.put, List.setIfInBounds_toArray, List.set_cons_zero, List.set_cons_succ]
            go_big_quiet_on
            go_big_quiet_want
            refine q_read (.pointer (some ⟨w.heap.size, 1, none⟩)) (fun w' hw' => ?_) ?_
            · go_simp
            simp only [Act.put, List.setIfInBounds_toArray, List.set_cons_zero, List.set_cons_succ]
            go_big_quiet_on
            go_big_quiet_want
            refine q_read (.slice (some ⟨b, off, none⟩) n c) (fun w' hw' => ?_) ?_
            · obtain ⟨y0, y1, y2, y3⟩ := KR.out w' hw'
              go_simp
            simp only [Act.put, List.setIfInBounds_toArray, List.set_cons_zero, List.set_cons_succ]
            go_big_quiet_on
            go_big_quiet_want
            go_big_quiet_op
            go_big_quiet_on
            go_big_quiet_want
            refine q_read (.int .i64 (k : Int)) (fun w' hw' => ?_) ?_
            · go_simp
            simp only [Act.put, List.setIfInBounds_toArray, List.set_cons_zero, List.set_cons_succ]
            go_big_quiet_on
            go_big_quiet_want
            refine q_read (.pointer (some ⟨b, off + k * 2, none⟩)) (fun w' hw' => ?_) ?_
            · go_simp
            simp only [Act.put, List.setIfInBounds_toArray, List.set_cons_zero, List.set_cons_succ]
            go_big_quiet_on
            go_big_quiet_want
            refine q_read (.pointer (some ⟨b, off + k * 2, none⟩)) (fun w' hw' => ?_) ?_
            · go_simp
            simp only [Act.put, List.setIfInBounds_toArray, List.set_cons_zero, List.set_cons_succ]
            go_big_quiet_on
            go_big_quiet_want
            refine q_read (.string l') (fun w' hw' => ?_) ?_
            · obtain ⟨y0, y1, y2, y3⟩ := KR.out w' hw'
              have y4 := KP.out w' hw'
              go_simp
            simp only [Act.put, List.setIfInBounds_toArray, List.set_cons_zero, List.set_cons_succ]
            go_big_quiet_on
            go_big_quiet_want
            refine q_read (.bool false) (fun w' hw' => ?_) ?_
            · go_simp
            simp only [Act.put, List.setIfInBounds_toArray, List.set_cons_zero, List.set_cons_succ]
            go_big_quiet_on
            go_big_quiet_want
            refine q_read (.bool false) (fun w' hw' => ?_) ?_
            · go_simp
            simp only [Act.put, List.setIfInBounds_toArray, List.set_cons_zero, List.set_cons_succ]
            go_big_quiet_on
            go_big_quiet_want
            refine q_read (.bool false) (fun w' hw' => ?_) ?_
            · go_simp
            simp only [Act.put, List.setIfInBounds_toArray, List.set_cons_zero, List.set_cons_succ]
            go_big_quiet_on
            refine wpQuiet_nil ?_
            intro w' hw'
            have HW := Lib.hid ((KR.out w' hw').2.2.2)
            go_wp2
            go_roundw
            case rel => exact ⟨k + 2, by omega, by go_num, HW.out, HS⟩
            case measure => simp [intOf]; omega
          all_goals
            have HS : Hid (validG s0 rs = false) := by
              unfold Hid validG
              rw [HL.out, okRules_no HNX.out hlt, Bool.and_false]
            go_wp2
            rw [← EVR.out]
            refine wp_region_class (fun w' => Below vr.heap.size vr w') (by kernel_rfl) (by kernel_rfl) (Below.refl _ _).drew ?_
            go_big_quiet_want
            refine q_read (.agg #[.string l, .string t]) (fun w' hw' => ?_) ?_
            · obtain ⟨y0, y1, y2, y3⟩ := KR.out w' hw'
              go_simp
            simp only [Act.put, List.setIfInBounds_toArray, List.set_cons_zero, List.set_cons_succ]
            go_big_quiet_on
            go_big_quiet_want
            refine q_call (.bool true) 47 #[.agg #[.string l, .string t]] (fun w' hw' => ?_) (fun w' hw' => ?_) ?_
            · go_simp
            · exact (RC.out w').mono fun e w'' h => ⟨h.1, hw'.trans (h.2.mono hw'.size)⟩
            simp only [Act.put, List.setIfInBounds_toArray, List.set_cons_zero, List.set_cons_succ]
            go_big_quiet_on
            go_big_quiet_want
            refine q_read (.bool false) (fun w' hw' => ?_) ?_
            · go_simp
            simp only [Act.put, List.setIfInBounds_toArray, List.set_cons_zero, List.set_cons_succ]
            go_big_quiet_on
            go_big_quiet_want
            go_big_quiet_op
            go_big_quiet_on
            go_big_quiet_want
            go_big_quiet_op
            go_big_quiet_on
            go_big_quiet_want
            refine q_read (.bool true) (fun w' hw' => ?_) ?_
            · go_simp
            simp only [Act.put, List.setIfInBounds_toArray, List.set_cons_zero, List.set_cons_succ]
            go_big_quiet_on
            go_big_quiet_want
            go_big_quiet_op
            go_big_quiet_on
            go_big_quiet_want
            refine q_read (.pointer (some ⟨wr.heap.size, 0, none⟩)) (fun w' hw' => ?_) ?_
            · go_simp
            simp only [Act.put, List.setIfInBounds_toArray, List.set_cons_zero, List.set_cons_succ]
            go_big_quiet_on
            go_big_quiet_want
            refine q_read (.string l) (fun w' hw' => ?_) ?_
            · obtain ⟨y0, y1, y2, y3⟩ := KR.out w' hw'
              go_simp
            simp only [Act.put, List.setIfInBounds_toArray, List.set_cons_zero, List.set_cons_succ]
            go_big_quiet_on
            go_big_quiet_want
            refine q_read (.pointer (some ⟨w.heap.size, 1, none⟩)) (fun w' hw' => ?_) ?_
            · go_simp
            simp only [Act.put, List.setIfInBounds_toArray, List.set_cons_zero, List.set_cons_succ]
            go_big_quiet_on
            go_big_quiet_want
            refine q_read (.slice (some ⟨b, off, none⟩) n c) (fun w' hw' => ?_) ?_
            · obtain ⟨y0, y1, y2, y3⟩ := KR.out w' hw'
              go_simp
            simp only [Act.put, List.setIfInBounds_toArray, List.set_cons_zero, List.set_cons_succ]
            go_big_quiet_on
            go_big_quiet_want
            go_big_quiet_op
            go_big_quiet_on
            go_big_quiet_want
            refine q_read (.int .i64 (k : Int)) (fun w' hw' => ?_) ?_
            · go_simp
            simp only [Act.put, List.setIfInBounds_toArray, List.set_cons_zero, List.set_cons_succ]
            go_big_quiet_on
            go_big_quiet_want
            refine q_read (.pointer (some ⟨b, off + k * 2, none⟩)) (fun w' hw' => ?_) ?_
            · go_simp
            simp only [Act.put, List.setIfInBounds_toArray, List.set_cons_zero, List.set_cons_succ]
            go_big_quiet_on
            go_big_quiet_want
            refine q_read (.pointer (some ⟨b, off + k * 2, none⟩)) (fun w' hw' => ?_) ?_
            · go_simp
            simp only [Act.put, List.setIfInBounds_toArray, List.set_cons_zero, List.set_cons_succ]
            go_big_quiet_on
            go_big_quiet_want
            refine q_read (.string l') (fun w' hw' => ?_) ?_
            · obtain ⟨y0, y1, y2, y3⟩ := KR.out w' hw'
              have y4 := KP.out w' hw'
              go_simp
            simp only [Act.put, List.setIfInBounds_toArray, List.set_cons_zero, List.set_cons_succ]
            go_big_quiet_on
            go_big_quiet_want
            refine q_read (.bool true) (fun w' hw' => ?_) ?_
            · go_simp
            simp only [Act.put, List.setIfInBounds_toArray, List.set_cons_zero, List.set_cons_succ]
            go_big_quiet_on
            go_big_quiet_want
            refine q_read (.bool true) (fun w' hw' => ?_) ?_
            · go_simp
            simp only [Act.put, List.setIfInBounds_toArray, List.set_cons_zero, List.set_cons_succ]
            go_big_quiet_on
            go_big_quiet_want
            refine q_read (.bool true) (fun w' hw' => ?_) ?_
            · go_simp
            simp only [Act.put, List.setIfInBounds_toArray, List.set_cons_zero, List.set_cons_succ]
            go_big_quiet_on
            refine wpQuiet_nil ?_
            intro w' hw'
            have HW := Lib.hid (HB0.out.trans ((KR.out w' hw').2.2.2.mono (by omega)))
            go_wp2
            go_ret
            exact ⟨ret_bool HS.out.symm, HW.out⟩
    · obtain rfl : k = n := by omega
      clear d1
      have HW := Lib.hid (HB0.out.trans (HB.out.mono (by omega)))
      have d1 := (K0.out wr HB.out).2
      obtain ⟨q, hq⟩ : ∃ q, wordB s0 32 = q := ⟨_, rfl⟩
      rw [hq] at WC
      have HV : Hid (validG s0 rs = (q && decide (k ≤ 8))) := by unfold Hid validG; rw [hq, HL.out, HOK.out, Bool.and_true]
      clear hq
      cases q
      · go_wp2_with fail
        refine (WC.out _).mono ?_
        rintro e w5 ⟨rfl, h5⟩
        obtain rfl := h5.symm
        go_wp2
        go_ret
        exact ⟨ret_bool (by rw [HV.out]; simp), HW.out⟩
      · go_wp2_with fail
        refine (WC.out _).mono ?_
        rintro e w5 ⟨rfl, h5⟩
        obtain rfl := h5.symm
        go_wp2
        go_ret
        exact ⟨ret_bool (by rw [HV.out, Bool.eq_iff_iff]; simp; omega), HW.out⟩
end Go.Proofs.YthgdikdcbkhgjaaDoor

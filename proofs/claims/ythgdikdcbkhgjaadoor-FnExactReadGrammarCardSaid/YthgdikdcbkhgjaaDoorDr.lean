/- Walk: a grammar read from a text, by the reference. Condition: texts are at most 2^20 bytes long. -/
import Derived.Test.YthgdikdcbkhgjaaDoorDp
import Derived.Test.YthgdikdcbkhgjaaDoorDv
import Derived.Test.YthgdikdcbkhgjaaDoorGp
import Derived.Deep.AppendLies
import Derived.Deep.RegionLaw
import Derived.StillTailTactics
namespace Go.Proofs.YthgdikdcbkhgjaaDoor
open Go.RowKit

theorem ne_list {x : ByteArray} {l : List UInt8} (h : x ≠ ⟨l.toArray⟩) : ¬ x.toList = l := by
  rw [ByteArray.toList_eq]
  intro e
  apply h
  apply ByteArray.ext
  apply Array.ext'
  exact e
theorem pc_sizes (c : UInt8) : ∀ (k : Nat) (s x : ByteArray), x ∈ Lib.splitB (sepC c) 0 k s → x.size ≤ s.size
  | 0, s, x, h => by
    rw [Lib.splitB_zero] at h
    simp at h
    subst h
    exact Nat.le_refl _
  | k + 1, s, x, h => by
    unfold Lib.splitB at h
    split at h
    · simp at h
      subst h
      exact Nat.le_refl _
    · rw [List.mem_cons] at h
      rcases h with h | h
      · subst h
        simp
        omega
      · have := pc_sizes c k _ x h
        simp at this
        omega
theorem pc_size {c : UInt8} {s x : ByteArray} (h : x ∈ partsC c s) : x.size ≤ s.size := pc_sizes c _ _ _ h
theorem pc_le (c : UInt8) (s : ByteArray) : 1 ≤ (partsC c s).length ∧ (partsC c s).length ≤ s.size + 1 := by
  rw [pc_len]
  have := Lib.countB_le (sepC c) (Nat.le_refl _) s.size s (Nat.le_refl _)
  omega
theorem rcells_snoc (rs : List (ByteArray × ByteArray)) (p : ByteArray × ByteArray) : rcells (rs ++ [p]) = rcells rs ++ [.string p.1, .string p.2] := by simp [rcells]
theorem own_elem {w : World} {base g n c : Nat} {xs : List Value} {e : TypeId} {A : Option Addr} {k : Nat} {v : Value} (h : w.ownsRow base e 1 (.slice A n c) n xs) (hA : A = some ⟨g, 0, none⟩) (hk : xs[k]? = some v) : w.cell? ⟨g, k, none⟩ = some v := by
  subst hA
  have hkl := (List.getElem?_eq_some_iff.1 hk).1
  have := h.1
  rw [h.cellAt _ (by omega)]
  exact hk
theorem own_addr {w : World} {base n c : Nat} {xs : List Value} {e : TypeId} {A : Option Addr} {size : Nat} (h : w.ownsRow base e size (.slice A n c) n xs) (hn : 0 < n) : ∃ g, A = some ⟨g, 0, none⟩ ∧ g < w.heap.size := by
  obtain ⟨g, cap, hv, _, hgl⟩ := h.form hn
  exact ⟨g, by injection hv, hgl⟩
theorem ruleInfo' : (Tryd.prog.info? 45).map (fun i => (i.zero, i.size, i.bytes)) = some (some (.agg #[.string ⟨#[]⟩, .string ⟨#[]⟩]), 2, 32) := by kernel_rfl
section
variable {P : Program}
theorem results_row2 {fn : Func} {p a : Tmp} {ty : TypeId} (h : fn.results = #[.cell p ty, .tmp a]) (tmps : Array Value) (w : World) (g : Nat) (t : TypeId) (cs : Array Value) (d : TypeDesc)
    (hp : tmps.getD p undef = .pointer (some ⟨g, 0, none⟩)) (hg : Blk w g t cs)
    (hu : P.underlying ty = some d) (hd : (match d with | .struct _ | .array _ _ => true | _ => false) = true) (hi : (P.info? ty).map (·.size) = some cs.size) (va : Value) (ha : tmps.getD a undef = va) :
    (results fn tmps).run P w = .ok (.tuple #[.agg cs, va]) w := by
  have hp' : tmps[p]?.getD undef = .pointer (some ⟨g, 0, none⟩) := by simpa using hp
  have ha' : tmps[a]?.getD undef = va := by simpa using ha
  simp [results, h, hp', ha', asAddr, run_loadVar_row w g t ty cs (0, 0) d hg hu hd hi]
end
/-- What reading a grammar gives. -/
def RgOut (t : ByteArray) (w : World) (e : Ending) (w' : World) : Prop :=
  Below w.heap.size w w' ∧ ((∃ a rs A c, SpecOk t a rs ∧ e = .returned (.tuple #[.agg #[.string a, .slice A rs.length c], .bool true]) ∧ w'.ownsRow w.heap.size 45 2 (.slice A rs.length c) rs.length (rcells rs)) ∨
    ((∀ a rs, ¬ SpecOk t a rs) ∧ e = .returned (.tuple #[.agg #[.string ⟨#[]⟩, .slice none 0 0], .bool false])))
theorem no_spec_len {t : ByteArray} (h : (partsC 59 t).length ≠ 2) : ∀ a rs, ¬ SpecOk t a rs := fun a rs ⟨r, h1, _⟩ => by rw [h1] at h; exact h rfl
theorem no_spec_two {t a r x : ByteArray} (h : partsC 59 t = [a, r]) (hr : r ≠ noneT) (hx : x ∈ partsC 47 r) (h2 : two x = none) : ∀ a rs, ¬ SpecOk t a rs := fun a' rs ⟨r', h1, hc, _⟩ => by
  rw [h] at h1
  injection h1 with _ h1
  injection h1 with h1 _
  subst h1
  rcases hc with ⟨e, _⟩ | ⟨_, e⟩
  · exact hr e
  · have : two x ∈ (partsC 47 r).map two := List.mem_map_of_mem hx
    rw [e, h2] at this
    obtain ⟨p, _, hp⟩ := List.mem_map.1 this
    cases hp
def Parsed (r : ByteArray) (rs : List (ByteArray × ByteArray)) : Prop := (r = noneT ∧ rs = []) ∨ (r ≠ noneT ∧ (partsC 47 r).map two = rs.map some)
theorem no_spec_bad {t a r : ByteArray} {rs : List (ByteArray × ByteArray)} (h : partsC 59 t = [a, r]) (hp : Parsed r rs) (hv : validG a rs = false) : ∀ a rs, ¬ SpecOk t a rs := fun a' rs' ⟨r', h1, hc, hv'⟩ => by
  rw [h] at h1
  injection h1 with ha h1
  injection h1 with h1 _
  subst ha h1
  have e : rs = rs' := by
    rcases hp with ⟨q1, q2⟩ | ⟨q1, q2⟩ <;> rcases hc with ⟨q1', q2'⟩ | ⟨q1', q2'⟩
    · rw [q2, q2']
    · exact absurd q1 q1'
    · exact absurd q1' q1
    · rw [q2] at q2'
      exact (List.map_inj_right (fun _ _ h => by injection h)).1 q2'
  subst e
  rw [hv] at hv'
  cases hv'
theorem parsed_fits {r : ByteArray} {rs : List (ByteArray × ByteArray)} (h : Parsed r rs) (hr : r.size ≤ 1048576) : Fits rs ∧ rs.length ≤ 1048577 := by
  rcases h with ⟨_, rfl⟩ | ⟨_, e⟩
  · exact ⟨fun k p hp => by simp at hp, by simp⟩
  · have hl : rs.length = (partsC 47 r).length := by have := congrArg List.length e; simpa using this.symm
    have := pc_le 47 r
    refine ⟨fun k p hp => ?_, by omega⟩
    have h1 : ((partsC 47 r).map two)[k]? = some (some p) := by rw [e, List.getElem?_map, hp]; rfl
    rw [List.getElem?_map] at h1
    cases hx : (partsC 47 r)[k]? with
    | none => rw [hx] at h1; cases h1
    | some x =>
      rw [hx] at h1
      injection h1 with h1
      have hxs := pc_size (List.mem_of_getElem? hx)
      have h2 := two_some h1
      have a1 := pc_size (c := 61) (s := x) (x := p.1) (by rw [h2]; simp)
      have a2 := pc_size (c := 61) (s := x) (x := p.2) (by rw [h2]; simp)
      unfold maxLen
      omega
set_option maxRecDepth 100000 in
set_option maxHeartbeats 8000000 in
theorem l08ReadGrammar_any (t : ByteArray) (w : World) (ht : t.size ≤ 1048576) : Calls Tryd.prog 23 #[.string t] w (RgOut t w) := by
  obtain ⟨i0, hi, hz0, hz1, hz2⟩ := info_parts ruleInfo'
  have CC := Lib.hid (fun (c : UInt8) (s : ByteArray) (w : World) (hs : s.size ≤ 1048576) => l01CutC_any c s w hs)
  have b59 : (((59 : UInt8).toNat : Nat) : Int) = 59 := rfl
  have b47 : (((47 : UInt8).toNat : Nat) : Int) = 47 := rfl
  have b61 : (((61 : UInt8).toNat : Nat) : Int) = 61 := rfl
  obtain ⟨v, ev⟩ : ∃ v, v = w.alloc (.cells #[.string ⟨#[]⟩, .slice none 0 0] 24) := ⟨_, rfl⟩
  have R0 : Hid (Blk v w.heap.size 24 #[.string ⟨#[]⟩, .slice none 0 0]) := by rw [ev]; exact Blk.new _ _ _
  have B0 : Hid (Below w.heap.size w v) := by rw [ev]; exact (Below.refl _ _).alloc (Nat.le_refl _) _
  have Z0 : Hid (w.heap.size < v.heap.size) := by rw [ev]; unfold Hid; simp
  have EV := Lib.hid ev
  have C1 := Lib.hid (by have := CC.out 59 t v ht; rw [b59] at this; exact this)
  obtain ⟨PL, ePL⟩ : ∃ PL, partsC 59 t = PL := ⟨_, rfl⟩
  have HPL := Lib.hid ePL
  have hple := pc_le 59 t
  have HPS := Lib.hid (fun (x : ByteArray) (h : x ∈ PL) => pc_size (c := 59) (s := t) (x := x) (by rw [ePL]; exact h))
  rw [ePL] at C1 hple
  clear ev ePL
  go_enter Tryd.func23, Tryd.ntmps23
  go_wp2_with fail
  rw [← EV.out]
  refine C1.out.mono ?_
  rintro e w1 ⟨A, c, rfl, ho, hb⟩
  have B1 := Lib.hid (B0.out.trans (hb.mono (Nat.le_of_lt Z0.out)))
  have R1 := Lib.hid (R0.out.below hb Z0.out)
  have z1 := Lib.hid hb.size
  have O1 := Lib.hid ho
  clear hb ho C1
  obtain ⟨m, em⟩ : ∃ m, PL.length = m := ⟨_, rfl⟩
  rw [em] at O1 hple ⊢
  by_cases h2 : m = 2
  · obtain ⟨a, r, hPL⟩ : ∃ a r, PL = [a, r] := by
      match PL, em with
      | [a, r], _ => exact ⟨a, r, rfl⟩
      | [], e => simp at e; omega
      | [_], e => simp at e; omega
      | _ :: _ :: _ :: _, e => simp at e; omega
    subst hPL
    subst h2
    have HP2 : Hid (partsC 59 t = [a, r]) := HPL.out
    have hra := HPS.out a (by simp)
    have hrr := HPS.out r (by simp)
    obtain ⟨g, rfl, hgl⟩ := own_addr O1.out (by omega)
    have c0 := own_elem (k := 0) (v := .string a) O1.out rfl rfl
    have c1 := own_elem (k := 1) (v := .string r) O1.out rfl rfl
    have HC1 := Lib.hid c1
    have G1 := Lib.hid hgl
    have hcap := O1.out
    have hc2 : 2 ≤ c := by
      rcases hcap.2 with ⟨h', _⟩ | ⟨g', cap, cur, hv, hb', hh, hn, hx, hs', ht'⟩
      · simp at h'
      · injection hv with _ _ h3
        omega
    have O1E : Hid ((w1.alloc (.cells #[] 45)).ownsRow w.heap.size 45 2 (.slice (some ⟨w1.heap.size, 0, none⟩) 0 0) 0 []) := (Blk.new w1 45 #[]).own (n := 0) (size := 2) B1.out.size rfl (by unfold maxLen; omega)
    obtain ⟨w2, ew2⟩ : ∃ w2, w2 = (w1.alloc (.cells #[] 45)).alloc (.cells #[.string a, .slice (some ⟨w1.heap.size, 0, none⟩) 0 0] 24) := ⟨_, rfl⟩
    have c1' : ((w1.alloc (.cells #[] 45)).alloc (.cells #[.string a, .slice (some ⟨w1.heap.size, 0, none⟩) 0 0] 24)).cell? ⟨g, 1, none⟩ = some (.string r) := own_elem (k := 1) (v := .string r) ((O1.out.alloc _).alloc _) rfl rfl
    have B2 : Hid (Below w.heap.size w w2) := by rw [ew2]; exact ((B1.out.alloc B1.out.size _).alloc (by have := B1.out.size; simp; omega) _)
    have R2 : Hid (Blk w2 w.heap.size 24 #[.string ⟨#[]⟩, .slice none 0 0]) := by rw [ew2]; exact (R1.out.alloc _).alloc _
    have O2 : Hid (w2.ownsRow w.heap.size 45 2 (.slice (some ⟨w1.heap.size, 0, none⟩) 0 0) 0 (rcells [])) := by rw [ew2]; exact O1E.out.alloc _
    have P2 : Hid (w2.ownsRow v.heap.size 9 1 (.slice (some ⟨g, 0, none⟩) 2 c) 2 ([a, r].map Value.string)) := by rw [ew2]; exact (O1.out.alloc _).alloc _
    have K2 : Hid (Blk w2 (w1.heap.size + 1) 24 #[.string a, .slice (some ⟨w1.heap.size, 0, none⟩) 0 0]) := by rw [ew2]; exact Blk.new2 _ _ _ _
    have EW2 := Lib.hid ew2
    have c2 : w2.cell? ⟨g, 1, none⟩ = some (.string r) := own_elem (k := 1) (v := .string r) P2.out rfl rfl
    have hg0 : w.heap.size < w1.heap.size + 1 := by have := B1.out.size; omega
    have HI := Lib.hid hi
    clear hgl em hcap HPS ew2 O1E hi
    have hrr2 : r.size ≤ 1048576 := by omega
    by_cases hr : r = noneT
    · subst hr
      have PR : Hid (Parsed noneT []) := .inl ⟨rfl, rfl⟩
      unfold noneT at c1' c2
      have IS := Lib.hid (l04Is_any a ([] : List (ByteArray × ByteArray)) (some ⟨w1.heap.size, 0, none⟩) ([] : List (ByteArray × ByteArray)).length 0 (w1.heap.size + 1) w2.heap.size w2 (by unfold maxLen; omega) (by have := (parsed_fits PR.out hrr2).2; unfold maxLen; omega) rfl (parsed_fits PR.out hrr2).1 K2.out (Rd.own O2.out))
      have HBAD := Lib.hid (no_spec_bad HP2.out PR.out)
      cases hv : validG a ([] : List (ByteArray × ByteArray))
      · rw [hv] at IS
        have HNO := Lib.hid (HBAD.out hv)
        clear HBAD hv
        go_wp2_with fail
        rw [← EW2.out]
        refine IS.out.mono ?_
        rintro e w4 ⟨rfl, m4, hw4⟩
        have R4 : Hid (Blk w4 w.heap.size 24 #[.string ⟨#[]⟩, .slice none 0 0]) := by rw [hw4]; exact R2.out
        have B4 : Hid (Below w.heap.size w w4) := by rw [hw4]; exact ⟨B2.out.os, B2.out.tape, B2.out.output, B2.out.size, B2.out.block⟩
        clear hw4
        go_wp2_with (first
          | (refine wpList_store_blk rfl _ _ _ rfl w.heap.size 0 rfl _ rfl [.string ⟨#[]⟩, .slice none 0 0] rfl 24 _ #[.string ⟨#[]⟩, .slice none 0 0] R4.out (by kernel_rfl) (by simp) (by simp [Value.oneCell']) rfl ?_; intro w9 k9 g9)
          | fail)
        refine bodyPost_ret (results_row2 rfl _ w9 w.heap.size 24 _ _ rfl k9 Tryd.underlying24 rfl (by kernel_rfl) _ rfl) rfl ?_
        exact ⟨B4.out.grown g9 B4.out.size (fun j e => by injection e with e; omega), .inr ⟨HNO.out, rfl⟩⟩
      · rw [hv] at IS
        have HOK : Hid (SpecOk t a ([] : List (ByteArray × ByteArray))) := ⟨_, HP2.out, PR.out, hv⟩
        clear HBAD hv
        go_wp2_with fail
        rw [← EW2.out]
        refine IS.out.mono ?_
        rintro e w4 ⟨rfl, m4, hw4⟩
        have R4 : Hid (Blk w4 w.heap.size 24 #[.string ⟨#[]⟩, .slice none 0 0]) := by rw [hw4]; exact R2.out
        have K4 : Hid (Blk w4 (w1.heap.size + 1) 24 #[.string a, .slice (some ⟨w1.heap.size, 0, none⟩) ([] : List (ByteArray × ByteArray)).length 0]) := by rw [hw4]; exact K2.out
        have O4 : Hid (w4.ownsRow w.heap.size 45 2 (.slice (some ⟨w1.heap.size, 0, none⟩) ([] : List (ByteArray × ByteArray)).length 0) ([] : List (ByteArray × ByteArray)).length (rcells ([] : List (ByteArray × ByteArray)))) := by rw [hw4]; exact O2.out
        have B4 : Hid (Below w.heap.size w w4) := by rw [hw4]; exact ⟨B2.out.os, B2.out.tape, B2.out.output, B2.out.size, B2.out.block⟩
        clear hw4
        go_wp2_with (first
          | (refine wpList_load_blk rfl _ _ rfl (w1.heap.size + 1) 0 rfl 24 _ K4.out [.string a, .slice (some ⟨w1.heap.size, 0, none⟩) ([] : List (ByteArray × ByteArray)).length 0] rfl _ Tryd.underlying24 rfl (by kernel_rfl) ?_)
          | (refine wpList_store_blk rfl _ _ _ rfl w.heap.size 0 rfl _ rfl [.string a, .slice (some ⟨w1.heap.size, 0, none⟩) ([] : List (ByteArray × ByteArray)).length 0] rfl 24 _ #[.string a, .slice (some ⟨w1.heap.size, 0, none⟩) ([] : List (ByteArray × ByteArray)).length 0] R4.out (by kernel_rfl) (by simp) (by simp [Value.oneCell']) rfl ?_; intro w9 k9 g9)
          | fail)
        refine bodyPost_ret (results_row2 rfl _ w9 w.heap.size 24 _ _ rfl k9 Tryd.underlying24 rfl (by kernel_rfl) _ rfl) rfl ?_
        exact ⟨B4.out.grown g9 B4.out.size (fun j e => by injection e with e; omega), .inl ⟨a, ([] : List (ByteArray × ByteArray)), (some ⟨w1.heap.size, 0, none⟩), 0, HOK.out, rfl, own_grown' O4.out g9 (own_blk_ne O4.out R4.out (by decide))⟩⟩
    · have hrn := ne_list hr
      have hrn2 : (r.toList == [110, 111, 110, 101]) = false := by simpa using hrn
      have C3 := Lib.hid (by have := CC.out 47 r w2 (by omega); rw [b47] at this; exact this)
      have HN2 := Lib.hid (fun x hx h2 => no_spec_two HP2.out hr (x := x) hx h2)
      have HPR := Lib.hid (fun L h => (.inr ⟨hr, h⟩ : Parsed r L))
      have hple3 := pc_le 47 r
      have HXS := Lib.hid (fun x (h : x ∈ partsC 47 r) => pc_size h)
      obtain ⟨X, eX⟩ : ∃ X, partsC 47 r = X := ⟨_, rfl⟩
      have HEX := Lib.hid eX
      rw [eX] at C3 HN2 hple3 HXS
      obtain ⟨n, en⟩ : ∃ n, X.length = n := ⟨_, rfl⟩
      rw [en] at C3 hple3
      have EN := Lib.hid en
      have hn5 : n ≤ 1048577 := by omega
      obtain ⟨hn1, _⟩ := hple3
      clear hr eX en
      go_wp2_with fail
      rw [← EW2.out]
      refine C3.out.mono ?_
      rintro e w3 ⟨A3, c3, rfl, ho3, hb3⟩
      have B3 := Lib.hid (B2.out.trans (hb3.mono B2.out.size))
      have R3 := Lib.hid (R2.out.below hb3 R2.out.lt)
      have K3 := Lib.hid (K2.out.below hb3 K2.out.lt)
      have O3 := Lib.hid (own_below O2.out hb3)
      have P3 := Lib.hid ho3
      clear hb3 ho3
      obtain ⟨g3, rfl, _⟩ := own_addr P3.out (by omega)
      go_wp2
      go_loopw [7] (fun si wr => ∃ (k : Nat) (L : List (ByteArray × ByteArray)) (Al : Option Addr) (cl : Nat), si = .int .i64 (k : Int) ∧ k ≤ n ∧ Hid ((X.take k).map two = L.map some) ∧ Hid (Blk wr (w1.heap.size + 1) 24 #[.string a, .slice Al L.length cl]) ∧
        Hid (Blk wr w.heap.size 24 #[.string ⟨#[]⟩, .slice none 0 0]) ∧ Hid (wr.ownsRow w.heap.size 45 2 (.slice Al L.length cl) L.length (rcells L)) ∧ Hid (wr.ownsRow w2.heap.size 9 1 (.slice (some ⟨g3, 0, none⟩) n c3) n (X.map Value.string)) ∧ Below w.heap.size w wr) (fun si _ => n - (intOf si).toNat)
      case atStart => exact ⟨0, [], some ⟨w1.heap.size, 0, none⟩, 0, rfl, Nat.zero_le _, rfl, K3.out, R3.out, O3.out, P3.out, B3.out⟩
      case round =>
        clear K3 R3 O3 P3 B3 C3 K2 R2 O2 P2 B2 c2 c1'
        obtain ⟨k, L, Al, cl, rfl, hk, HM, K, R, O, Q, hb⟩ := hrel
        have B := Lib.hid hb
        have hsz := hb.size
        clear hb
        by_cases hlt : k < n
        · obtain ⟨x, hx⟩ : ∃ x, X[k]? = some x := ⟨_, List.getElem?_eq_getElem (by rw [EN.out]; exact hlt)⟩
          have cX : wr.cell? ⟨g3, k, none⟩ = some (.string x) := own_elem (k := k) Q.out rfl (by rw [List.getElem?_map, hx]; rfl)
          have hxm := List.mem_of_getElem? hx
          have hxr := HXS.out x hxm
          have hxs : x.size ≤ 1048576 := by omega
          have htk : X.take (k + 1) = X.take k ++ [x] := by rw [List.take_add_one, hx]; rfl
          have C5 := Lib.hid (by have := CC.out 61 x wr hxs; rw [b61] at this; exact this)
          have hkn : (k : Int) < (n : Int) := by omega
          have HNX := Lib.hid (fun h2 => HN2.out x hxm h2)
          have HTS := Lib.hid (fun a b h => two_of (x := x) (a := a) (b := b) h)
          have HTN := Lib.hid (fun h => two_no (x := x) h)
          obtain ⟨Y, eY⟩ : ∃ Y, partsC 61 x = Y := ⟨_, rfl⟩
          rw [eY] at C5 HTN HTS
          clear hx hxm
          obtain ⟨m, em⟩ : ∃ m, Y.length = m := ⟨_, rfl⟩
          rw [em] at C5 HTN
          by_cases hm2 : m = 2
          · obtain ⟨l, y, hY⟩ : ∃ l y, Y = [l, y] := by
              match Y, em with
              | [a, r], _ => exact ⟨a, r, rfl⟩
              | [], e => simp at e; omega
              | [_], e => simp at e; omega
              | _ :: _ :: _ :: _, e => simp at e; omega
            subst hY
            subst hm2
            have htw := HTS.out l y rfl
            have HM2 : Hid ((X.take (k + 1)).map two = (L ++ [(l, y)]).map some) := by
              unfold Hid
              rw [htk, List.map_append, List.map_append, HM.out]
              simp [htw]
            have hLn : L.length ≤ 1048577 := by
              have := congrArg List.length HM.out
              rw [List.length_map, List.length_map, List.length_take] at this
              omega
            clear htk htw em HTS HTN eY
            go_wp2_with fail
            refine C5.out.mono ?_
            rintro e w5 ⟨A5, c5, rfl, ho5, hb5⟩
            have B5 := Lib.hid (B.out.trans (hb5.mono hsz))
            have R5 := Lib.hid (R.out.below hb5 R.out.lt)
            have K5 := Lib.hid (K.out.below hb5 K.out.lt)
            have O5 := Lib.hid (own_below O.out hb5)
            have Q5 := Lib.hid (own_below Q.out hb5)
            obtain ⟨g5, rfl, _⟩ := own_addr ho5 (by omega)
            have P5 : Hid (w5.drew.ownsRow wr.heap.size 9 1 (.slice (some ⟨g5, 0, none⟩) 2 c5) 2 ([l, y].map Value.string)) := ho5
            have d0 : w5.drew.cell? ⟨g5, 0, none⟩ = some (.string l) := own_elem (k := 0) P5.out rfl rfl
            have d1 : w5.drew.cell? ⟨g5, 1, none⟩ = some (.string y) := own_elem (k := 1) P5.out rfl rfl
            have P6 : Hid ((w5.drew.alloc (.cells #[.string l, .string y] 45)).ownsRow wr.heap.size 9 1 (.slice (some ⟨g5, 0, none⟩) 2 c5) 2 ([l, y].map Value.string)) := P5.out.alloc _
            have f0 : (w5.drew.alloc (.cells #[.string l, .string y] 45)).cell? ⟨g5, 0, none⟩ = some (.string l) := own_elem (k := 0) P6.out rfl rfl
            have f1 : (w5.drew.alloc (.cells #[.string l, .string y] 45)).cell? ⟨g5, 1, none⟩ = some (.string y) := own_elem (k := 1) P6.out rfl rfl
            have K6 : Hid (Blk (w5.drew.alloc (.cells #[.string l, .string y] 45)) (w1.heap.size + 1) 24 #[.string a, .slice Al L.length cl]) := K5.out.alloc _
            have d0' : w5.cell? ⟨g5, 0, none⟩ = some (.string l) := d0
            have d1' : w5.cell? ⟨g5, 1, none⟩ = some (.string y) := d1
            have e0 : w5.cell? ⟨w1.heap.size + 1, 1, none⟩ = some (.slice Al L.length cl) := K5.out.cell 1
            have hlt0 : w1.heap.size + 1 < w5.heap.size := K5.out.lt
            have hne0 : ¬ w1.heap.size + 1 = w5.heap.size := by omega
            have e1 : w5.drew.cell? ⟨w1.heap.size + 1, 1, none⟩ = some (.slice Al L.length cl) := K5.out.cell 1
            have e2 : (w5.drew.alloc (.cells #[.string l, .string y] 45)).cell? ⟨w1.heap.size + 1, 1, none⟩ = some (.slice Al L.length cl) := K6.out.cell 1
            have O6 : Hid ((w5.drew.alloc (.cells #[.string l, .string y] 45)).ownsRow w.heap.size 45 2 (.slice Al L.length cl) L.length (rcells L)) := O5.out.alloc _
            have Q6 : Hid ((w5.drew.alloc (.cells #[.string l, .string y] 45)).ownsRow w2.heap.size 9 1 (.slice (some ⟨g3, 0, none⟩) n c3) n (X.map Value.string)) := Q5.out.alloc _
            have R6 : Hid (Blk (w5.drew.alloc (.cells #[.string l, .string y] 45)) w.heap.size 24 #[.string ⟨#[]⟩, .slice none 0 0]) := R5.out.alloc _
            have B6 : Hid (Below w.heap.size w (w5.drew.alloc (.cells #[.string l, .string y] 45))) := B5.out.drew.alloc B5.out.size _
            have C6 : Hid (∀ j u, ([.string l, .string y] : List Value)[j]? = some u → (w5.drew.alloc (.cells #[.string l, .string y] 45)).cell? ((⟨w5.heap.size, 0, none⟩ : Addr).add j) = some u) := World.news_of_block (heap_alloc_new w5.drew (.cells #[.string l, .string y] 45))
            have H1 : Hid (∀ u ∈ ([.string l, .string y] : List Value), u.oneCell' = true) := fun u hu => by
              simp at hu
              rcases hu with rfl | rfl <;> rfl
            have H3 : Hid (w5.heap.size = w5.drew.heap.size) := rfl
            have hc5 : 2 ≤ c5 := by
              rcases ho5.2 with ⟨h', _⟩ | ⟨g', cap, cur, hv, hb', hh, hn, hx, hs', ht'⟩
              · simp at h'
              · injection hv with _ _ h3
                omega
            clear hb5 ho5
            go_wp2
            go_region_law (refine step_append_lies _ rfl _ _ _ rfl w.heap.size 45 i0 (.agg #[.string ⟨#[]⟩, .string ⟨#[]⟩]) 2 32 Tryd.underlying22 HI.out hz0 hz1 hz2 rfl (by omega) (.slice Al L.length cl) L.length (rcells L) (by rfl) O6.out ⟨w5.heap.size, 0, none⟩ 1 1 [.string l, .string y] (by rfl) (by simp) C6.out H1.out (by omega) (by unfold maxLen; omega) (by omega) B6.out.size (w5.heap.size + 1) (by simp) ?_
                           intro gg cap w7 ho7 hg7 hd7 hlt7
                           have K7 := Lib.hid (K6.out.grown hg7 (own_blk_ne O6.out K6.out (by decide)))
                           have R7 := Lib.hid (R6.out.grown hg7 (own_blk_ne O6.out R6.out (by decide)))
                           have B7 := Lib.hid (B6.out.grown hg7 B6.out.size (fun k e => (O6.out.lt k e).1))
                           have Q7 := Lib.hid (own_kept Q6.out hg7 (Dis.types Q6.out O6.out (by decide)))
                           have P7 := Lib.hid (own_kept P6.out hg7 (Dis.types P6.out O6.out (by decide)))
                           have O7 := Lib.hid ho7
                           have h0 := own_elem (k := 0) (v := .string l) P7.out rfl rfl
                           have h1 := own_elem (k := 1) (v := .string y) P7.out rfl rfl
                           have e7 := K7.out.cell 1
                           have f7 := K7.out.frozen 1
                           have g8 := Lib.hid (grown_set (World.grownBy.refl w7 (some (w1.heap.size + 1))) (p := ⟨w1.heap.size + 1, 1, none⟩) rfl (.slice (some ⟨gg, 0, none⟩) (L.length + 1) cap))
                           have K8 := Lib.hid (K7.out.set_ 1 (.slice (some ⟨gg, 0, none⟩) (L.length + 1) cap))
                           have P8 := Lib.hid (own_grown' P7.out g8.out (own_blk_ne P7.out K7.out (by decide)))
                           have i0' := own_elem (k := 0) (v := .string l) P8.out rfl rfl
                           have i1' := own_elem (k := 1) (v := .string y) P8.out rfl rfl)
            all_goals
              have O8 := Lib.hid (own_grown' O7.out g8.out (own_blk_ne O7.out K7.out (by decide)))
              have Q8 := Lib.hid (own_grown' Q7.out g8.out (own_blk_ne Q7.out K7.out (by decide)))
              have R8 := Lib.hid (R7.out.grown g8.out (fun e => by injection e with e; omega))
              have B8 := Lib.hid (B7.out.grown g8.out B7.out.size (fun k e => by injection e with e; omega))
              have hsl : L.length + 1 = (L ++ [(l, y)]).length := by rw [List.length_append, List.length_singleton]
              have hrc : rcells L ++ [.string l, .string y] = rcells (L ++ [(l, y)]) := (rcells_snoc L (l, y)).symm
              have HKK : Hid (Blk (w7.setCell ⟨w1.heap.size + 1, 1, none⟩ (.slice (some ⟨gg, 0, none⟩) (L.length + 1) cap)) (w1.heap.size + 1) 24 #[.string a, .slice (some ⟨gg, 0, none⟩) (L ++ [(l, y)]).length cap]) := by
                have := K8.out
                rw [← hsl]
                exact this
              have HOO : Hid ((w7.setCell ⟨w1.heap.size + 1, 1, none⟩ (.slice (some ⟨gg, 0, none⟩) (L.length + 1) cap)).ownsRow w.heap.size 45 2 (.slice (some ⟨gg, 0, none⟩) (L ++ [(l, y)]).length cap) (L ++ [(l, y)]).length (rcells (L ++ [(l, y)]))) := by
                rw [← hsl, ← hrc]
                exact O8.out
              clear hsl hrc
              generalize w7.setCell ⟨w1.heap.size + 1, 1, none⟩ (.slice (some ⟨gg, 0, none⟩) (L.length + 1) cap) = w8 at *
              go_wp2
              go_roundw
              case rel => exact ⟨k + 1, L ++ [(l, y)], some ⟨gg, 0, none⟩, cap, by go_num, by omega, HM2, HKK, R8, HOO, Q8, B8.out⟩
              case measure => simp [intOf]; omega
          · have HNO := Lib.hid (HNX.out (HTN.out hm2))
            have hm3 : ((m : Int) == 2) = false := by rw [beq_eq_false_iff_ne]; omega
            clear htk em HTS HTN eY
            go_wp2_with fail
            refine C5.out.mono ?_
            rintro e w5 ⟨A5, c5, rfl, ho5, hb5⟩
            have B5 := Lib.hid (B.out.trans (hb5.mono hsz))
            have R5 := Lib.hid (R.out.below hb5 R.out.lt)
            clear hb5 ho5
            go_wp2_with (first
              | (refine wpList_store_blk rfl _ _ _ rfl w.heap.size 0 rfl _ rfl [.string ⟨#[]⟩, .slice none 0 0] rfl 24 _ #[.string ⟨#[]⟩, .slice none 0 0] R5.out (by kernel_rfl) (by simp) (by simp [Value.oneCell']) rfl ?_; intro w9 k9 g9)
              | fail)
            refine bodyPost_ret (results_row2 rfl _ w9 w.heap.size 24 _ _ rfl k9 Tryd.underlying24 rfl (by kernel_rfl) _ rfl) rfl ?_
            exact ⟨B5.out.grown g9 B5.out.size (fun j e => by injection e with e; omega), .inr ⟨HNO.out, rfl⟩⟩
        · obtain rfl : k = n := by omega
          have PR : Hid (Parsed r L) := by
            have hm := HM.out
            rw [List.take_of_length_le (by rw [EN.out]; exact Nat.le_refl _), ← HEX.out] at hm
            exact (show Parsed r L from HPR.out L hm)
          have IS := Lib.hid (l04Is_any a L Al L.length cl (w1.heap.size + 1) wr.heap.size wr (by unfold maxLen; omega) (by have := (parsed_fits PR.out hrr2).2; unfold maxLen; omega) rfl (parsed_fits PR.out hrr2).1 K.out (Rd.own O.out))
          have HBAD := Lib.hid (no_spec_bad HP2.out PR.out)
          cases hv : validG a L
          · rw [hv] at IS
            have HNO := Lib.hid (HBAD.out hv)
            clear HBAD hv
            go_wp2_with fail
            refine IS.out.mono ?_
            rintro e w4 ⟨rfl, m4, hw4⟩
            have R4 : Hid (Blk w4 w.heap.size 24 #[.string ⟨#[]⟩, .slice none 0 0]) := by rw [hw4]; exact R.out
            have B4 : Hid (Below w.heap.size w w4) := by rw [hw4]; exact ⟨B.out.os, B.out.tape, B.out.output, B.out.size, B.out.block⟩
            clear hw4
            go_wp2_with (first
              | (refine wpList_store_blk rfl _ _ _ rfl w.heap.size 0 rfl _ rfl [.string ⟨#[]⟩, .slice none 0 0] rfl 24 _ #[.string ⟨#[]⟩, .slice none 0 0] R4.out (by kernel_rfl) (by simp) (by simp [Value.oneCell']) rfl ?_; intro w9 k9 g9)
              | fail)
            refine bodyPost_ret (results_row2 rfl _ w9 w.heap.size 24 _ _ rfl k9 Tryd.underlying24 rfl (by kernel_rfl) _ rfl) rfl ?_
            exact ⟨B4.out.grown g9 B4.out.size (fun j e => by injection e with e; omega), .inr ⟨HNO.out, rfl⟩⟩
          · rw [hv] at IS
            have HOK : Hid (SpecOk t a L) := ⟨_, HP2.out, PR.out, hv⟩
            clear HBAD hv
            go_wp2_with fail
            refine IS.out.mono ?_
            rintro e w4 ⟨rfl, m4, hw4⟩
            have R4 : Hid (Blk w4 w.heap.size 24 #[.string ⟨#[]⟩, .slice none 0 0]) := by rw [hw4]; exact R.out
            have K4 : Hid (Blk w4 (w1.heap.size + 1) 24 #[.string a, .slice Al L.length cl]) := by rw [hw4]; exact K.out
            have O4 : Hid (w4.ownsRow w.heap.size 45 2 (.slice Al L.length cl) L.length (rcells L)) := by rw [hw4]; exact O.out
            have B4 : Hid (Below w.heap.size w w4) := by rw [hw4]; exact ⟨B.out.os, B.out.tape, B.out.output, B.out.size, B.out.block⟩
            clear hw4
            go_wp2_with (first
              | (refine wpList_load_blk rfl _ _ rfl (w1.heap.size + 1) 0 rfl 24 _ K4.out [.string a, .slice Al L.length cl] rfl _ Tryd.underlying24 rfl (by kernel_rfl) ?_)
              | (refine wpList_store_blk rfl _ _ _ rfl w.heap.size 0 rfl _ rfl [.string a, .slice Al L.length cl] rfl 24 _ #[.string a, .slice Al L.length cl] R4.out (by kernel_rfl) (by simp) (by simp [Value.oneCell']) rfl ?_; intro w9 k9 g9)
              | fail)
            refine bodyPost_ret (results_row2 rfl _ w9 w.heap.size 24 _ _ rfl k9 Tryd.underlying24 rfl (by kernel_rfl) _ rfl) rfl ?_
            exact ⟨B4.out.grown g9 B4.out.size (fun j e => by injection e with e; omega), .inl ⟨a, L, Al, cl, HOK.out, rfl, own_grown' O4.out g9 (own_blk_ne O4.out R4.out (by decide))⟩⟩
  · have HNO := Lib.hid (no_spec_len (t := t) (by rw [HPL.out, em]; exact h2))
    have hm2 : ((m : Int) == 2) = false := by rw [beq_eq_false_iff_ne]; omega
    go_wp2_with (first
      | (refine wpList_store_blk rfl _ _ _ rfl w.heap.size 0 rfl _ rfl [.string ⟨#[]⟩, .slice none 0 0] rfl 24 _ #[.string ⟨#[]⟩, .slice none 0 0] R1.out (by kernel_rfl) (by simp) (by simp [Value.oneCell']) rfl ?_; intro w9 k9 g9)
      | fail)
    refine bodyPost_ret (results_row2 rfl _ w9 w.heap.size 24 _ _ rfl k9 Tryd.underlying24 rfl (by kernel_rfl) _ rfl) rfl ?_
    exact ⟨B1.out.grown g9 B1.out.size (fun j e => by injection e with e; omega), .inr ⟨HNO.out, rfl⟩⟩
end Go.Proofs.YthgdikdcbkhgjaaDoor

/- Walk: a grammar read from a text, by the program. Conditions: texts are at most 2^20 bytes long; the library's own size variable holds a number. -/
import Derived.Test.YthgdikdcbkhgjaaDoorDi
import Derived.Test.YthgdikdcbkhgjaaDoorGo
namespace Go.Proofs.YthgdikdcbkhgjaaDoor
open Go.RowKit

/-- What the program's reading gives. -/
def RiOut (t : ByteArray) (w : World) (e : Ending) (w' : World) : Prop :=
  Below w.heap.size w w' ∧ ((∃ a rs A c, ImplOk t a rs ∧ e = .returned (.tuple #[.agg #[.string a, .slice A rs.length c], .bool true]) ∧ w'.ownsRow w.heap.size 45 2 (.slice A rs.length c) rs.length (rcells rs)) ∨
    ((∀ a rs, ¬ ImplOk t a rs) ∧ e = .returned (.tuple #[.agg #[.string ⟨#[]⟩, .slice none 0 0], .bool false])))
def Cutted (r : ByteArray) (rs : List (ByteArray × ByteArray)) : Prop := (r = noneT ∧ rs = []) ∨ (r ≠ noneT ∧ rs = (partsC 47 r).map (cut1 61))
theorem cutted_uniq {r : ByteArray} {rs rs' : List (ByteArray × ByteArray)} (h : Cutted r rs) (h' : Cutted r rs') : rs = rs' := by
  rcases h with ⟨q1, q2⟩ | ⟨q1, q2⟩ <;> rcases h' with ⟨q1', q2'⟩ | ⟨q1', q2'⟩
  · rw [q2, q2']
  · exact absurd q1 q1'
  · exact absurd q1' q1
  · rw [q2, q2']
theorem impl_ok {t a r : ByteArray} {rs : List (ByteArray × ByteArray)} (h : cut1 59 t = (a, r)) (hc : Cutted r rs) (hv : validG a rs = true) (hg : gtext a rs = t.data.toList) : ImplOk t a rs := ⟨r, h, hc, hv, hg⟩
theorem impl_no {t a r : ByteArray} {rs : List (ByteArray × ByteArray)} (h : cut1 59 t = (a, r)) (hc : Cutted r rs) (hno : ¬ (validG a rs = true ∧ gtext a rs = t.data.toList)) : ∀ a rs, ¬ ImplOk t a rs := fun a' rs' ⟨r', h1, h2, h3, h4⟩ => by
  rw [h] at h1
  injection h1 with ha h1
  subst ha h1
  have := cutted_uniq hc h2
  subst this
  exact hno ⟨h3, h4⟩
theorem cut1_sizes (c : UInt8) (s : ByteArray) : (cut1 c s).1.size ≤ s.size ∧ (cut1 c s).2.size ≤ s.size := by
  unfold cut1 Lib.cut
  split
  · constructor
    · show (List.take _ s.data.toList).toArray.size ≤ s.data.size
      simp [List.length_take]
      omega
    · show (List.drop _ s.data.toList).toArray.size ≤ s.data.size
      simp [List.length_drop]
  · constructor
    · show s.data.toList.toArray.size ≤ s.data.size
      simp
    · show ([] : List UInt8).toArray.size ≤ s.data.size
      simp
theorem cutted_fits {r : ByteArray} {rs : List (ByteArray × ByteArray)} (h : Cutted r rs) (hr : r.size ≤ 1048576) : Fits rs ∧ rs.length ≤ 1048577 := by
  rcases h with ⟨_, rfl⟩ | ⟨_, e⟩
  · exact ⟨fun k p hp => by simp at hp, by simp⟩
  · have hl : rs.length = (partsC 47 r).length := by rw [e, List.length_map]
    have := pc_le 47 r
    refine ⟨fun k p hp => ?_, by omega⟩
    rw [e, List.getElem?_map] at hp
    cases hx : (partsC 47 r)[k]? with
    | none => rw [hx] at hp; cases hp
    | some x =>
      rw [hx] at hp
      injection hp with hp
      have hxs := pc_size (List.mem_of_getElem? hx)
      have := cut1_sizes 61 x
      rw [← hp]
      unfold maxLen
      omega
def sepB (c : UInt8) : ByteArray := ⟨#[c]⟩
set_option maxRecDepth 100000 in
set_option maxHeartbeats 8000000 in
theorem implRg_any (t : ByteArray) (w : World) (ht : t.size ≤ 1048576) (m0 : Int) (hm : w.cell? ⟨0, 0, none⟩ = some (.int .i64 m0)) : Calls Tryd.prog 8 #[.string t] w (RiOut t w) := by
  obtain ⟨i0, hi, hz0, hz1, hz2⟩ := info_parts ruleInfo'
  have hlt0 := World.block_lt_of_cell? w _ hm
  have CUT : Hid (∀ (c : UInt8) (s : ByteArray) (w1 : World), s.size ≤ 1048576 → Below w.heap.size w w1 → Calls Tryd.prog 24 #[.string s, .string ⟨#[c]⟩] w1 fun e w' => e = .returned (.tuple #[.string (cut1 c s).1, .string (cut1 c s).2, .bool (Lib.cut s.data.toList [c]).2.2]) ∧ ∃ n, w' = w1.drewN n) := fun c s w1 hs hb => Tryd.strings_Cut s ⟨#[c]⟩ m0 w1 (by omega) ((hb.cell hlt0).trans hm)
  have SPL := Lib.hid (fun (s : ByteArray) (w1 : World) (hs : s.size ≤ 1048576) (hb : Below w.heap.size w w1) => Tryd.strings_Split s (sepC 47) m0 w1 (by omega) ((hb.cell hlt0).trans hm) (Nat.le_refl _))
  obtain ⟨v, ev⟩ : ∃ v, v = w.alloc (.cells #[.string ⟨#[]⟩, .slice none 0 0] 24) := ⟨_, rfl⟩
  have R0 : Hid (Blk v w.heap.size 24 #[.string ⟨#[]⟩, .slice none 0 0]) := by rw [ev]; exact Blk.new _ _ _
  have B0 : Hid (Below w.heap.size w v) := by rw [ev]; exact (Below.refl _ _).alloc (Nat.le_refl _) _
  have Z0 : Hid (w.heap.size < v.heap.size) := by rw [ev]; unfold Hid; simp
  have EV := Lib.hid ev
  have C1 := Lib.hid (CUT.out 59 t v ht B0.out)
  have hsz := cut1_sizes 59 t
  obtain ⟨a, r, hcut⟩ : ∃ a r, cut1 59 t = (a, r) := ⟨_, _, rfl⟩
  have HCUT := Lib.hid hcut
  rw [hcut] at C1 hsz
  obtain ⟨hra, hrr⟩ : a.size ≤ t.size ∧ r.size ≤ t.size := hsz
  obtain ⟨q0, hq0⟩ : ∃ q, (Lib.cut t.data.toList [59]).2.2 = q := ⟨_, rfl⟩
  rw [hq0] at C1
  have C1' : Hid (Calls Tryd.prog 24 #[.string t, .string ⟨#[59]⟩] v fun e w' => e = .returned (.tuple #[.string a, .string r, .bool q0]) ∧ ∃ n, w' = v.drewN n) := C1.out
  clear ev hcut hq0 hm C1
  go_enter Tryd.func8, Tryd.ntmps8
  go_wp2_with fail
  rw [← EV.out]
  refine C1'.out.mono ?_
  rintro e w1 ⟨rfl, m1, hw1⟩
  obtain ⟨w2, ew2⟩ : ∃ w2, w2 = w1.alloc (.cells #[.string a, .slice none 0 0] 24) := ⟨_, rfl⟩
  have B1 : Hid (Below w.heap.size w w1) := by rw [hw1]; exact below_drewN' B0.out _
  have R1 : Hid (Blk w1 w.heap.size 24 #[.string ⟨#[]⟩, .slice none 0 0]) := by rw [hw1]; exact R0.out.drewN _
  have Z1 : Hid (w1.heap.size = v.heap.size) := by rw [hw1]; rfl
  have B2 : Hid (Below w.heap.size w w2) := by rw [ew2]; exact B1.out.alloc B1.out.size _
  have R2 : Hid (Blk w2 w.heap.size 24 #[.string ⟨#[]⟩, .slice none 0 0]) := by rw [ew2]; exact R1.out.alloc _
  have K2 : Hid (Blk w2 w1.heap.size 24 #[.string a, .slice none 0 0]) := by rw [ew2]; exact Blk.new _ _ _
  have O2 : Hid (w2.ownsRow w.heap.size 45 2 (.slice none ([] : List (ByteArray × ByteArray)).length 0) ([] : List (ByteArray × ByteArray)).length (rcells ([] : List (ByteArray × ByteArray)))) := ⟨rfl, .inl ⟨rfl, rfl⟩⟩
  have hg0 : w.heap.size < w1.heap.size := by have := Z0.out; have := Z1.out; omega
  have EW2 := Lib.hid ew2
  have HI := Lib.hid hi
  clear ew2 hw1 hi C1' R0 R1 B0 EV
  have hrr2 : r.size ≤ 1048576 := by omega
  have hra2 : a.size ≤ 1048576 := by omega
  by_cases hr : r = noneT
  · subst hr
    have PR : Hid (Cutted noneT []) := .inl ⟨rfl, rfl⟩
    unfold noneT
    have HLEN : Hid (([] : List (ByteArray × ByteArray)).length = 0) := rfl
    have FT := Lib.hid (cutted_fits PR.out hrr2)
    have VC := Lib.hid (ValidGrammar_any a ([] : List (ByteArray × ByteArray)) none 0 0 w2.heap.size w2 (by unfold maxLen; omega) (by have := FT.out.2; have := HLEN.out; unfold maxLen; omega) (Nat.le_refl _) HLEN.out FT.out.1 (Rd.own O2.out))
    have c0 : w2.cell? ⟨w1.heap.size, 0, none⟩ = some (.string a) := K2.out.cell 0
    have c1 : w2.cell? ⟨w1.heap.size, 1, none⟩ = some (.slice none 0 0) := K2.out.cell 1
    cases hv : validG a ([] : List (ByteArray × ByteArray))
    · rw [hv] at VC
      have HNO := Lib.hid (impl_no HCUT.out PR.out (fun h => by rw [hv] at h; cases h.1))
      clear hv
      go_wp2_with fail
      rw [← EW2.out]
      refine VC.out.mono ?_
      rintro e w4 ⟨rfl, hb4⟩
      have R4 := Lib.hid (R2.out.below hb4 R2.out.lt)
      have B4 := Lib.hid (B2.out.trans (hb4.mono B2.out.size))
      clear hb4
      go_wp2_with (first
        | (refine wpList_store_blk rfl _ _ _ rfl w.heap.size 0 rfl _ rfl [.string ⟨#[]⟩, .slice none 0 0] rfl 24 _ #[.string ⟨#[]⟩, .slice none 0 0] R4.out (by kernel_rfl) (by simp) (by simp [Value.oneCell']) rfl ?_; intro w9 k9 g9)
        | fail)
      refine bodyPost_ret (results_row2 rfl _ w9 w.heap.size 24 _ _ rfl k9 Tryd.underlying24 rfl (by kernel_rfl) _ rfl) rfl ?_
      exact ⟨B4.out.grown g9 B4.out.size (fun j e => by injection e with e; omega), .inr ⟨HNO.out, rfl⟩⟩
    · rw [hv] at VC
      have HV := Lib.hid hv
      have GT := Lib.hid (fun w4 (hb : Below w2.heap.size w2 w4) => grammarText_any a ([] : List (ByteArray × ByteArray)) none 0 0 w2.heap.size w4 hb.size HLEN.out (short_of HV.out) ((Rd.own O2.out).below hb))
      clear hv
      go_wp2_with fail
      rw [← EW2.out]
      refine VC.out.mono ?_
      rintro e w4 ⟨rfl, hb4⟩
      have R4 := Lib.hid (R2.out.below hb4 R2.out.lt)
      have K4 := Lib.hid (K2.out.below hb4 K2.out.lt)
      have O4 := Lib.hid (own_below O2.out hb4)
      have B4 := Lib.hid (B2.out.trans (hb4.mono B2.out.size))
      have GT4 := Lib.hid (GT.out w4 hb4)
      have d0 : w4.cell? ⟨w1.heap.size, 0, none⟩ = some (.string a) := K4.out.cell 0
      have d1 : w4.cell? ⟨w1.heap.size, 1, none⟩ = some (.slice none 0 0) := K4.out.cell 1
      have hz4 := hb4.size
      clear hb4 GT VC
      go_wp2_with fail
      refine GT4.out.mono ?_
      rintro e w5 ⟨⟨x, rfl, hx⟩, hb5⟩
      have R5 := Lib.hid (R4.out.below (hb5.mono hz4) R2.out.lt)
      have K5 := Lib.hid (K4.out.below (hb5.mono hz4) K2.out.lt)
      have O5 := Lib.hid (own_below O4.out (hb5.mono (Nat.le_refl _)))
      have B5 := Lib.hid (B4.out.trans (hb5.mono (Nat.le_trans B2.out.size hz4)))
      have HX := Lib.hid hx
      clear hb5 hx
      by_cases hxt : x = t
      · have HOK := Lib.hid (impl_ok HCUT.out PR.out HV.out (by rw [← HX.out, hxt]))
        have HFIN := Lib.hid (fun a rs (h : ImplOk x a rs) => (hxt ▸ h : ImplOk t a rs))
        have hxe : (x.toList == t.toList) = true := by rw [hxt]; simp
        have hxe2 : x.toList = t.toList := by rw [hxt]
        have HXT := Lib.hid hxt
        clear hxt
        go_wp2_with (first
          | (refine wpList_load_blk rfl _ _ rfl w1.heap.size 0 rfl 24 _ K5.out [.string a, .slice none 0 0] rfl _ Tryd.underlying24 rfl (by kernel_rfl) ?_)
          | (refine wpList_store_blk rfl _ _ _ rfl w.heap.size 0 rfl _ rfl [.string a, .slice none 0 0] rfl 24 _ #[.string a, .slice none 0 0] R5.out (by kernel_rfl) (by simp) (by simp [Value.oneCell']) rfl ?_; intro w9 k9 g9)
          | fail)
        refine bodyPost_ret (results_row2 rfl _ w9 w.heap.size 24 _ _ rfl k9 Tryd.underlying24 rfl (by kernel_rfl) _ rfl) rfl ?_
        exact ⟨B5.out.grown g9 B5.out.size (fun j e => by injection e with e; omega), .inl ⟨a, ([] : List (ByteArray × ByteArray)), none, 0, HOK.out, by rw [HLEN.out]; first | done | rfl, by rw [HLEN.out]; exact own_grown' O5.out g9 (own_blk_ne O5.out R5.out (by decide))⟩⟩
      · have HNO := Lib.hid (impl_no HCUT.out PR.out (fun h => hxt (by apply ByteArray.ext; apply Array.ext'; rw [HX.out]; exact h.2)))
        have hx0 : ¬ x.toList = t.toList := by
          rw [ByteArray.toList_eq, ByteArray.toList_eq]
          exact fun e => hxt (by apply ByteArray.ext; apply Array.ext'; exact e)
        have hxe : (x.toList == t.toList) = false := by simpa using hx0
        clear hxt
        go_wp2_with (first
          | (refine wpList_store_blk rfl _ _ _ rfl w.heap.size 0 rfl _ rfl [.string ⟨#[]⟩, .slice none 0 0] rfl 24 _ #[.string ⟨#[]⟩, .slice none 0 0] R5.out (by kernel_rfl) (by simp) (by simp [Value.oneCell']) rfl ?_; intro w9 k9 g9)
          | fail)
        refine bodyPost_ret (results_row2 rfl _ w9 w.heap.size 24 _ _ rfl k9 Tryd.underlying24 rfl (by kernel_rfl) _ rfl) rfl ?_
        exact ⟨B5.out.grown g9 B5.out.size (fun j e => by injection e with e; omega), .inr ⟨HNO.out, rfl⟩⟩
  · have hrn := ne_list hr
    have hrn2 : (r.toList == [110, 111, 110, 101]) = false := by simpa using hrn
    have SP := SPL.out r w2 hrr2 B2.out
    have hpl := pc_len 47 r
    have hple := pc_le 47 r
    obtain ⟨M, eM⟩ : ∃ M, Lib.countB r (sepC 47) = M := ⟨_, rfl⟩
    have hpB : Lib.splitB (sepC 47) 0 M r = partsC 47 r := by unfold partsC; rw [eM]
    rw [eM] at SP hpl
    have HPR : Hid (∀ L, L = (partsC 47 r).map (cut1 61) → Cutted r L) := fun L h => .inr ⟨hr, h⟩
    have HXS := Lib.hid (fun x (h : x ∈ partsC 47 r) => pc_size h)
    obtain ⟨w3, ew3⟩ : ∃ w3, w3 = w2.alloc (.cells ((Lib.splitB (sepC 47) 0 M r).map Value.string).toArray 9) := ⟨_, rfl⟩
    rw [← ew3] at SP
    rw [hpB] at ew3
    have P3' : Blk w3 w2.heap.size 9 ((partsC 47 r).map Value.string).toArray := by rw [ew3]; exact Blk.new _ _ _
    have B3 : Hid (Below w.heap.size w w3) := by rw [ew3]; exact B2.out.alloc B2.out.size _
    have R3 : Hid (Blk w3 w.heap.size 24 #[.string ⟨#[]⟩, .slice none 0 0]) := by rw [ew3]; exact R2.out.alloc _
    have K3 : Hid (Blk w3 w1.heap.size 24 #[.string a, .slice none 0 0]) := by rw [ew3]; exact K2.out.alloc _
    obtain ⟨X, eX⟩ : ∃ X, partsC 47 r = X := ⟨_, rfl⟩
    rw [eX] at P3' hpl HPR HXS hple
    have P3 : Hid (w3.ownsRow w2.heap.size 9 1 (.slice (some ⟨w2.heap.size, 0, none⟩) (M + 1) (M + 1)) (M + 1) (X.map Value.string)) := Blk.own (n := M + 1) (size := 1) P3' (Nat.le_refl _) (by simp [hpl]) (by unfold maxLen; omega)
    have EN := Lib.hid hpl
    have hn5 : M + 1 ≤ 1048577 := by omega
    have SP' := Lib.hid SP
    have esep : sepC 47 = ⟨#[47]⟩ := rfl
    rw [esep] at SP'
    clear SP P3' eX hple hpl hpB eM ew3 hr
    go_wp2_with fail
    rw [← EW2.out]
    refine SP'.out.mono ?_
    rintro e w3' ⟨rfl, hw3⟩
    obtain rfl := hw3.symm
    go_wp2
    go_loopw [26] (fun si wr => ∃ (k : Nat) (Al : Option Addr) (cl : Nat), si = .int .i64 (k : Int) ∧ k ≤ M + 1 ∧ Hid (Blk wr w1.heap.size 24 #[.string a, .slice Al k cl]) ∧
      Hid (Blk wr w.heap.size 24 #[.string ⟨#[]⟩, .slice none 0 0]) ∧ Hid (wr.ownsRow w.heap.size 45 2 (.slice Al k cl) k (rcells ((X.take k).map (cut1 61)))) ∧ Hid (wr.ownsRow w2.heap.size 9 1 (.slice (some ⟨w2.heap.size, 0, none⟩) (M + 1) (M + 1)) (M + 1) (X.map Value.string)) ∧ Below w.heap.size w wr) (fun si _ => M + 1 - (intOf si).toNat)
    case atStart => exact ⟨0, none, 0, rfl, Nat.zero_le _, K3.out, R3.out, ⟨rfl, .inl ⟨rfl, rfl⟩⟩, P3.out, B3.out⟩
    case round =>
      clear K3 R3 P3 B3 SP' K2 R2 O2 B2
      obtain ⟨k, Al, cl, rfl, hk, K, R, O, Q, hb⟩ := hrel
      have B := Lib.hid hb
      have hsz := hb.size
      clear hb
      by_cases hlt : k < M + 1
      · obtain ⟨x, hx⟩ : ∃ x, X[k]? = some x := ⟨_, List.getElem?_eq_getElem (by rw [EN.out]; exact hlt)⟩
        have cX : wr.cell? ⟨w2.heap.size, k, none⟩ = some (.string x) := own_elem (k := k) Q.out rfl (by rw [List.getElem?_map, hx]; rfl)
        have hxr := HXS.out x (List.mem_of_getElem? hx)
        have hxs : x.size ≤ 1048576 := by omega
        have htk : (X.take (k + 1)).map (cut1 61) = (X.take k).map (cut1 61) ++ [cut1 61 x] := by rw [List.take_add_one, hx, List.map_append]; rfl
        have C5 := CUT.out 61 x wr hxs B.out
        have hkn : (k : Int) < ((M + 1 : Nat) : Int) := by omega
        obtain ⟨l, y, hly⟩ : ∃ l y, cut1 61 x = (l, y) := ⟨_, _, rfl⟩
        rw [hly] at C5 htk
        obtain ⟨q0, hq0⟩ : ∃ q, (Lib.cut x.data.toList [61]).2.2 = q := ⟨_, rfl⟩
        rw [hq0] at C5
        have C5' : Hid (Calls Tryd.prog 24 #[.string x, .string ⟨#[61]⟩] wr fun e w' => e = .returned (.tuple #[.string l, .string y, .bool q0]) ∧ ∃ n, w' = wr.drewN n) := C5
        have HTK := Lib.hid htk
        clear C5 hq0 hly hx hxr htk
        go_wp2_with fail
        refine C5'.out.mono ?_
        rintro e w5 ⟨rfl, m5, hw5⟩
        have K5 : Hid (Blk w5 w1.heap.size 24 #[.string a, .slice Al k cl]) := by rw [hw5]; exact K.out.drewN _
        have R5 : Hid (Blk w5 w.heap.size 24 #[.string ⟨#[]⟩, .slice none 0 0]) := by rw [hw5]; exact R.out.drewN _
        have O5 : Hid (w5.ownsRow w.heap.size 45 2 (.slice Al k cl) k (rcells ((X.take k).map (cut1 61)))) := by rw [hw5]; exact O.out
        have Q5 : Hid (w5.ownsRow w2.heap.size 9 1 (.slice (some ⟨w2.heap.size, 0, none⟩) (M + 1) (M + 1)) (M + 1) (X.map Value.string)) := by rw [hw5]; exact Q.out
        have B5 : Hid (Below w.heap.size w w5) := by rw [hw5]; exact below_drewN' B.out _
        clear hw5 C5' K R O Q B hsz
        have e1 : w5.cell? ⟨w1.heap.size, 1, none⟩ = some (.slice Al k cl) := K5.out.cell 1
        have hlt0 : w1.heap.size < w5.heap.size := K5.out.lt
        have K6 : Hid (Blk (w5.alloc (.cells #[.string l, .string y] 45)) w1.heap.size 24 #[.string a, .slice Al k cl]) := K5.out.alloc _
        have R6 : Hid (Blk (w5.alloc (.cells #[.string l, .string y] 45)) w.heap.size 24 #[.string ⟨#[]⟩, .slice none 0 0]) := R5.out.alloc _
        have O6 : Hid ((w5.alloc (.cells #[.string l, .string y] 45)).ownsRow w.heap.size 45 2 (.slice Al k cl) k (rcells ((X.take k).map (cut1 61)))) := O5.out.alloc _
        have Q6 : Hid ((w5.alloc (.cells #[.string l, .string y] 45)).ownsRow w2.heap.size 9 1 (.slice (some ⟨w2.heap.size, 0, none⟩) (M + 1) (M + 1)) (M + 1) (X.map Value.string)) := Q5.out.alloc _
        have B6 : Hid (Below w.heap.size w (w5.alloc (.cells #[.string l, .string y] 45))) := B5.out.alloc B5.out.size _
        have C6 : Hid (∀ j u, ([.string l, .string y] : List Value)[j]? = some u → (w5.alloc (.cells #[.string l, .string y] 45)).cell? ((⟨w5.heap.size, 0, none⟩ : Addr).add j) = some u) := World.news_of_block (heap_alloc_new w5 (.cells #[.string l, .string y] 45))
        have H1 : Hid (∀ u ∈ ([.string l, .string y] : List Value), u.oneCell' = true) := fun u hu => by
          simp at hu
          rcases hu with rfl | rfl <;> rfl
        have hzA := B6.out.size
        go_wp2_with (first
          | (at_builtin; refine wpList_append_own_at (P := Tryd.prog) (w5.alloc (.cells #[.string l, .string y] 45)) rfl _ _ _ rfl w.heap.size 45 i0 (.agg #[.string ⟨#[]⟩, .string ⟨#[]⟩]) 2 32 Tryd.underlying22 HI.out hz0 hz1 hz2 rfl (by omega) (.slice Al k cl) k (rcells ((X.take k).map (cut1 61))) rfl O6.out ⟨w5.heap.size, 0, none⟩ 1 1 [.string l, .string y] rfl rfl C6.out H1.out (by unfold maxLen; omega) (by omega) hzA ?_; intro v7 w7 ho7 hg7 hn7 hd7
             obtain ⟨gg, cap, rfl, _, _⟩ := ho7.form (by omega)
             have K7 := Lib.hid (K6.out.grown hg7 (own_blk_ne O6.out K6.out (by decide)))
             have R7 := Lib.hid (R6.out.grown hg7 (own_blk_ne O6.out R6.out (by decide)))
             have B7 := Lib.hid (B6.out.grown hg7 B6.out.size (fun k e => (O6.out.lt k e).1))
             have Q7 := Lib.hid (own_kept Q6.out hg7 (Dis.types Q6.out O6.out (by decide)))
             have O7 := Lib.hid ho7
             clear ho7 hg7 hn7 hd7
             have e7 := K7.out.cell 1
             have f7 := K7.out.frozen 1)
          | fail)
        have g8 := Lib.hid (grown_set (World.grownBy.refl w7 (some w1.heap.size)) (p := ⟨w1.heap.size, 1, none⟩) rfl (.slice (some ⟨gg, 0, none⟩) (k + 1) cap))
        have K8 := Lib.hid (K7.out.set_ 1 (.slice (some ⟨gg, 0, none⟩) (k + 1) cap))
        have O8 := Lib.hid (own_grown' O7.out g8.out (own_blk_ne O7.out K7.out (by decide)))
        have Q8 := Lib.hid (own_grown' Q7.out g8.out (own_blk_ne Q7.out K7.out (by decide)))
        have R8 := Lib.hid (R7.out.grown g8.out (fun e => by injection e with e; omega))
        have B8 := Lib.hid (B7.out.grown g8.out B7.out.size (fun k e => by injection e with e; omega))
        have HOO : Hid ((w7.setCell ⟨w1.heap.size, 1, none⟩ (.slice (some ⟨gg, 0, none⟩) (k + 1) cap)).ownsRow w.heap.size 45 2 (.slice (some ⟨gg, 0, none⟩) (k + 1) cap) (k + 1) (rcells ((X.take (k + 1)).map (cut1 61)))) := by
          unfold Hid
          rw [HTK.out, rcells_snoc]
          exact O8.out
        have HKK : Hid (Blk (w7.setCell ⟨w1.heap.size, 1, none⟩ (.slice (some ⟨gg, 0, none⟩) (k + 1) cap)) w1.heap.size 24 #[.string a, .slice (some ⟨gg, 0, none⟩) (k + 1) cap]) := K8.out
        clear K8 O8 g8 K7 O7 Q7 R7 B7
        generalize w7.setCell ⟨w1.heap.size, 1, none⟩ (.slice (some ⟨gg, 0, none⟩) (k + 1) cap) = w8 at *
        go_wp2
        go_roundw
        case rel => exact ⟨k + 1, some ⟨gg, 0, none⟩, cap, by go_num, by omega, HKK, R8, HOO, Q8, B8.out⟩
        case measure => simp [intOf]; omega
      · obtain rfl : k = M + 1 := by omega
        have PR : Hid (Cutted r ((X.take (M + 1)).map (cut1 61))) := by
          exact (show Cutted r ((X.take (M + 1)).map (cut1 61)) from HPR.out _ (by rw [List.take_of_length_le (by rw [EN.out]; exact Nat.le_refl _)]))
        have HLEN : Hid (((X.take (M + 1)).map (cut1 61)).length = M + 1) := by
          unfold Hid
          rw [List.length_map, List.length_take, EN.out]
          omega
        obtain ⟨L, eL⟩ : ∃ L, (X.take (M + 1)).map (cut1 61) = L := ⟨_, rfl⟩
        rw [eL] at PR HLEN O
        clear eL
        have FT := Lib.hid (cutted_fits PR.out hrr2)
        have VC := Lib.hid (ValidGrammar_any a L Al (M + 1) cl wr.heap.size wr (by unfold maxLen; omega) (by have := FT.out.2; have := HLEN.out; unfold maxLen; omega) (Nat.le_refl _) HLEN.out FT.out.1 (Rd.own O.out))
        have c0 : wr.cell? ⟨w1.heap.size, 0, none⟩ = some (.string a) := K.out.cell 0
        have c1 : wr.cell? ⟨w1.heap.size, 1, none⟩ = some (.slice Al (M + 1) cl) := K.out.cell 1
        cases hv : validG a L
        · rw [hv] at VC
          have HNO := Lib.hid (impl_no HCUT.out PR.out (fun h => by rw [hv] at h; cases h.1))
          clear hv
          go_wp2_with fail
          refine VC.out.mono ?_
          rintro e w4 ⟨rfl, hb4⟩
          have R4 := Lib.hid (R.out.below hb4 R.out.lt)
          have B4 := Lib.hid (B.out.trans (hb4.mono B.out.size))
          clear hb4
          go_wp2_with (first
            | (refine wpList_store_blk rfl _ _ _ rfl w.heap.size 0 rfl _ rfl [.string ⟨#[]⟩, .slice none 0 0] rfl 24 _ #[.string ⟨#[]⟩, .slice none 0 0] R4.out (by kernel_rfl) (by simp) (by simp [Value.oneCell']) rfl ?_; intro w9 k9 g9)
            | fail)
          refine bodyPost_ret (results_row2 rfl _ w9 w.heap.size 24 _ _ rfl k9 Tryd.underlying24 rfl (by kernel_rfl) _ rfl) rfl ?_
          exact ⟨B4.out.grown g9 B4.out.size (fun j e => by injection e with e; omega), .inr ⟨HNO.out, rfl⟩⟩
        · rw [hv] at VC
          have HV := Lib.hid hv
          have GT := Lib.hid (fun w4 (hb : Below wr.heap.size wr w4) => grammarText_any a L Al (M + 1) cl wr.heap.size w4 hb.size HLEN.out (short_of HV.out) ((Rd.own O.out).below hb))
          clear hv
          go_wp2_with fail
          refine VC.out.mono ?_
          rintro e w4 ⟨rfl, hb4⟩
          have R4 := Lib.hid (R.out.below hb4 R.out.lt)
          have K4 := Lib.hid (K.out.below hb4 K.out.lt)
          have O4 := Lib.hid (own_below O.out hb4)
          have B4 := Lib.hid (B.out.trans (hb4.mono B.out.size))
          have GT4 := Lib.hid (GT.out w4 hb4)
          have d0 : w4.cell? ⟨w1.heap.size, 0, none⟩ = some (.string a) := K4.out.cell 0
          have d1 : w4.cell? ⟨w1.heap.size, 1, none⟩ = some (.slice Al (M + 1) cl) := K4.out.cell 1
          have hz4 := hb4.size
          clear hb4 GT VC
          go_wp2_with fail
          refine GT4.out.mono ?_
          rintro e w5 ⟨⟨x, rfl, hx⟩, hb5⟩
          have R5 := Lib.hid (R4.out.below (hb5.mono hz4) R.out.lt)
          have K5 := Lib.hid (K4.out.below (hb5.mono hz4) K.out.lt)
          have O5 := Lib.hid (own_below O4.out (hb5.mono (Nat.le_refl _)))
          have B5 := Lib.hid (B4.out.trans (hb5.mono (Nat.le_trans B.out.size hz4)))
          have HX := Lib.hid hx
          clear hb5 hx
          by_cases hxt : x = t
          · have HOK := Lib.hid (impl_ok HCUT.out PR.out HV.out (by rw [← HX.out, hxt]))
            have HFIN := Lib.hid (fun a rs (h : ImplOk x a rs) => (hxt ▸ h : ImplOk t a rs))
            have hxe : (x.toList == t.toList) = true := by rw [hxt]; simp
            have hxe2 : x.toList = t.toList := by rw [hxt]
            have HXT := Lib.hid hxt
            clear hxt
            go_wp2_with (first
              | (refine wpList_load_blk rfl _ _ rfl w1.heap.size 0 rfl 24 _ K5.out [.string a, .slice Al (M + 1) cl] rfl _ Tryd.underlying24 rfl (by kernel_rfl) ?_)
              | (refine wpList_store_blk rfl _ _ _ rfl w.heap.size 0 rfl _ rfl [.string a, .slice Al (M + 1) cl] rfl 24 _ #[.string a, .slice Al (M + 1) cl] R5.out (by kernel_rfl) (by simp) (by simp [Value.oneCell']) rfl ?_; intro w9 k9 g9)
              | fail)
            refine bodyPost_ret (results_row2 rfl _ w9 w.heap.size 24 _ _ rfl k9 Tryd.underlying24 rfl (by kernel_rfl) _ rfl) rfl ?_
            exact ⟨B5.out.grown g9 B5.out.size (fun j e => by injection e with e; omega), .inl ⟨a, L, Al, cl, HOK.out, by rw [HLEN.out]; first | done | rfl, by rw [HLEN.out]; exact own_grown' O5.out g9 (own_blk_ne O5.out R5.out (by decide))⟩⟩
          · have HNO := Lib.hid (impl_no HCUT.out PR.out (fun h => hxt (by apply ByteArray.ext; apply Array.ext'; rw [HX.out]; exact h.2)))
            have hx0 : ¬ x.toList = t.toList := by
              rw [ByteArray.toList_eq, ByteArray.toList_eq]
              exact fun e => hxt (by apply ByteArray.ext; apply Array.ext'; exact e)
            have hxe : (x.toList == t.toList) = false := by simpa using hx0
            clear hxt
            go_wp2_with (first
              | (refine wpList_store_blk rfl _ _ _ rfl w.heap.size 0 rfl _ rfl [.string ⟨#[]⟩, .slice none 0 0] rfl 24 _ #[.string ⟨#[]⟩, .slice none 0 0] R5.out (by kernel_rfl) (by simp) (by simp [Value.oneCell']) rfl ?_; intro w9 k9 g9)
              | fail)
            refine bodyPost_ret (results_row2 rfl _ w9 w.heap.size 24 _ _ rfl k9 Tryd.underlying24 rfl (by kernel_rfl) _ rfl) rfl ?_
            exact ⟨B5.out.grown g9 B5.out.size (fun j e => by injection e with e; omega), .inr ⟨HNO.out, rfl⟩⟩
end Go.Proofs.YthgdikdcbkhgjaaDoor

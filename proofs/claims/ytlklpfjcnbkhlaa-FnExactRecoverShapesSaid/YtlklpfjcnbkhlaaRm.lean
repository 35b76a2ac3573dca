/- Walks: the laws' marks on lists of shapes, and whether they are held. Conditions: the numbers stay below 2^31. -/
import Derived.Test.YtlklpfjcnbkhlaaRc
import Derived.Test.YtlklpfjcnbkhlaaMt
import Derived.Deep.RegionHeld3
namespace Go.Proofs.Ytlklpfjcnbkhlaa
open Go.RowKit

/-- The marks of a row of truth values. -/
def mkB (k n : Nat) : List Bool := (List.range n).map fun j : Nat => (((k : Int) + (j : Int)) % 3 == 0)
theorem mkB_len (k n : Nat) : (mkB k n).length = n := by simp [mkB]
theorem mkB_map (k n : Nat) : (mkB k n).map bv = (List.range n).map (mbv k) := by
  unfold mkB
  rw [List.map_map]
  refine List.map_congr_left fun j _ => ?_
  first | rfl | (simp [mbv, bv])
/-- A shape marked from k on. -/
def Shp.mark (s : Shp) (k : Nat) : Shp := ⟨mt k, ((k + 1 : Nat) : Int), ((k + 2 : Nat) : Int), s.A, s.c, mkB (k + 3) s.cs.length⟩
def markAll : Nat → List Shp → List Shp
  | _, [] => []
  | k, s :: l => s.mark k :: markAll (k + 3 + s.cs.length) l
def markEnd : Nat → List Shp → Nat
  | k, [] => k
  | k, s :: l => markEnd (k + 3 + s.cs.length) l
theorem markAll_len : ∀ (l : List Shp) (k : Nat), (markAll k l).length = l.length
  | [], _ => rfl
  | s :: l, k => by simp [markAll, markAll_len l]
theorem markEnd_snoc : ∀ (l : List Shp) (k : Nat) (s : Shp), markEnd k (l ++ [s]) = markEnd k l + 3 + s.cs.length
  | [], _, _ => rfl
  | t :: l, k, s => by simp [markEnd, markEnd_snoc l]
theorem markAll_snoc : ∀ (l : List Shp) (k : Nat) (s : Shp), markAll k (l ++ [s]) = markAll k l ++ [s.mark (markEnd k l)]
  | [], _, _ => rfl
  | t :: l, k, s => by simp [markAll, markEnd, markAll_snoc l]
theorem markEnd_le : ∀ (l : List Shp) (k : Nat), (∀ s ∈ l, s.cs.length ≤ 256) → markEnd k l ≤ k + 259 * l.length
  | [], k, _ => by simp [markEnd]
  | s :: l, k, h => by
    have h1 := h s (by simp)
    have h2 := markEnd_le l (k + 3 + s.cs.length) (fun t ht => h t (by simp [ht]))
    simp only [markEnd, List.length_cons]
    omega
theorem markEnd_ge : ∀ (l : List Shp) (k : Nat), k ≤ markEnd k l
  | [], k => Nat.le_refl _
  | s :: l, k => by
    have := markEnd_ge l (k + 3 + s.cs.length)
    simp only [markEnd]; omega
theorem markAll_get : ∀ (l : List Shp) (k j : Nat) (s : Shp), l[j]? = some s → (markAll k l)[j]? = some (s.mark (markEnd k (l.take j)))
  | [], _, _, _, h => by simp at h
  | t :: l, k, 0, s, h => by
    simp at h
    subst h
    rfl
  | t :: l, k, j + 1, s, h => by
    have := markAll_get l (k + 3 + t.cs.length) j s (by simpa using h)
    simpa [markAll, markEnd] using this
theorem mark_sl (s : Shp) (k : Nat) : (s.mark k).sl = s.sl := by simp [Shp.sl, Shp.mark, mkB_len]
theorem markAll_mem : ∀ (l : List Shp) (k : Nat) (t : Shp), t ∈ markAll k l → ∃ s ∈ l, t.sl = s.sl
  | [], _, _, h => by simp [markAll] at h
  | s :: l, k, t, h => by
    simp only [markAll, List.mem_cons] at h
    rcases h with h | h
    · exact ⟨s, by simp, by rw [h, mark_sl]⟩
    · obtain ⟨u, hu, e⟩ := markAll_mem l _ t h
      exact ⟨u, by simp [hu], e⟩
theorem shCells_app (P Q : List Shp) : shCells (P ++ Q) = shCells P ++ shCells Q := by unfold shCells; rw [List.flatMap_append]
theorem set3 (P Q : List Shp) (s : Shp) (j k : Nat) (hP : P.length = j) :
    (((shCells (P ++ s :: Q)).set (j * 4) (.string (mt k))).set (j * 4 + 1) (.int .i64 ((k + 1 : Nat) : Int))).set (j * 4 + 2) (.int .i64 ((k + 2 : Nat) : Int)) = shCells (P ++ s.mark k :: Q) := by
  have h := shCells_len P
  rw [hP] at h
  have e : ∀ t : Shp, shCells (P ++ t :: Q) = shCells P ++ (t.cells ++ shCells Q) := fun t => by
    rw [shCells_app]
    congr 1
  rw [e, e, List.set_append_right _ _ (by omega), List.set_append_right _ _ (by omega), List.set_append_right _ _ (by omega), h]
  rw [show j * 4 - j * 4 = 0 from by omega, show j * 4 + 1 - j * 4 = 1 from by omega, show j * 4 + 2 - j * 4 = 2 from by omega]
  have e2 : (s.mark k).cells = [.string (mt k), .int .i64 ((k + 1 : Nat) : Int), .int .i64 ((k + 2 : Nat) : Int), .slice s.A s.cs.length s.c] := by simp [Shp.cells, Shp.mark, mkB_len]
  rw [e2]
  rfl
theorem own_ct {w : World} {base : Nat} {s t : Shp} (h : w.ownsRow base 4 1 s.sl s.cs.length (s.cs.map bv)) (he : s = t) : w.ownsRow base 4 1 t.sl t.cs.length (t.cs.map bv) := by subst he; exact h
set_option maxRecDepth 100000 in
set_option maxHeartbeats 4000000 in
theorem markShapeS_any (l : List Shp) (A : Option Addr) (n c k base : Nat) (w : World) (hk0 : 0 < k) (hn : n ≤ 8) (hk : k + 259 * n < 1000000) (hl : l.length = n) (h256 : ∀ s ∈ l, s.cs.length ≤ 256) (hap : l.Pairwise fun a b => Dis a.sl b.sl)
    (hown : w.ownsRow base 34 4 (.slice A n c) n (shCells l)) (hrows : ShO w base l) (hbase : base ≤ w.heap.size) :
    Calls Try.prog 18 #[.slice A n c, .int .i64 k] w fun e w' => e = .returned (.int .i64 ((markEnd k l : Nat) : Int)) ∧ w'.ownsRow base 34 4 (.slice A n c) n (shCells (markAll k l)) ∧ ShO w' base (markAll k l) ∧ Below base w w' := by
  have HL := Lib.hid hl
  have H256 := Lib.hid h256
  have HAP := Lib.hid hap
  have HOW := Lib.hid hown
  have HRW := Lib.hid hrows
  clear hl h256 hap hown hrows
  go_enter Try.func18, Try.ntmps18
  go_wp2
  go_loopw [1, 5] (fun kv i wr => ∃ j : Nat, j ≤ n ∧ i = .int .i64 j ∧ kv = .int .i64 ((markEnd k (l.take j) : Nat) : Int) ∧ Hid (wr.ownsRow base 34 4 (.slice A n c) n (shCells (markAll k (l.take j) ++ l.drop j))) ∧
    Hid (ShO wr base (markAll k (l.take j) ++ l.drop j)) ∧ Below base w wr) (fun _ i _ => n - (intOf i).toNat)
  case atStart => exact ⟨0, Nat.zero_le _, rfl, rfl, HOW.out, HRW.out, Below.refl _ _⟩
  case round =>
    clear HOW HRW
    obtain ⟨j, hj, rfl, rfl, HO, HR, hb⟩ := hrel
    have HB := Lib.hid hb
    clear hb
    by_cases hlt : j < n
    · obtain ⟨s, hs⟩ : ∃ s, l[j]? = some s := ⟨_, List.getElem?_eq_getElem (by rw [HL.out]; exact hlt)⟩
      have hdrop : l.drop j = s :: l.drop (j + 1) := by
        rw [List.drop_eq_getElem_cons (by rw [HL.out]; exact hlt)]
        have := List.getElem?_eq_some_iff.1 hs
        rw [this.2]
      have htake : l.take (j + 1) = l.take j ++ [s] := by rw [List.take_add_one, hs]; rfl
      obtain ⟨kj, hkj⟩ : ∃ kj, markEnd k (l.take j) = kj := ⟨_, rfl⟩
      have hk1 : kj ≤ k + 259 * j := by
        have := markEnd_le (l.take j) k (fun t ht => H256.out t (List.mem_of_mem_take ht))
        rw [hkj, List.length_take, HL.out] at this
        omega
      have hk2 : k ≤ kj := by rw [← hkj]; exact markEnd_ge _ _
      have hs256 := H256.out s (List.mem_of_getElem? hs)
      have hPl : (markAll k (l.take j)).length = j := by rw [markAll_len, List.length_take, HL.out]; omega
      have HTE : Hid (markEnd k (l.take (j + 1)) = kj + 3 + s.cs.length) := by unfold Hid; rw [htake, markEnd_snoc, hkj]
      have HMA : Hid (markAll k (l.take (j + 1)) ++ l.drop (j + 1) = markAll k (l.take j) ++ s.mark kj :: l.drop (j + 1)) := by unfold Hid; rw [htake, markAll_snoc, hkj]; simp
      have hD : (∀ t ∈ markAll k (l.take j), Dis t.sl s.sl) ∧ ∀ t ∈ l.drop (j + 1), Dis t.sl s.sl := by
        have hp := HAP.out
        rw [← List.take_append_drop j l, hdrop, List.pairwise_append] at hp
        obtain ⟨_, p2, p3⟩ := hp
        rw [List.pairwise_cons] at p2
        refine ⟨fun t ht => ?_, fun t ht => (p2.1 t ht).symm⟩
        obtain ⟨u, hu, e⟩ := markAll_mem _ _ _ ht
        rw [e]
        exact p3 u hu s (by simp)
      have HD := Lib.hid hD
      rw [hdrop] at HO HR
      obtain ⟨P, hP⟩ : ∃ P, markAll k (l.take j) = P := ⟨_, rfl⟩
      obtain ⟨Q, hQ⟩ : ∃ Q, l.drop (j + 1) = Q := ⟨_, rfl⟩
      have HQ := Lib.hid hQ
      rw [hP] at HO HR HMA HD hPl
      rw [hQ] at HO HR HMA HD
      obtain ⟨g, cap, hv, _, hgl⟩ := HO.out.form (by omega)
      obtain ⟨rfl, rfl⟩ : A = some ⟨g, 0, none⟩ ∧ c = cap := by injection hv with h1 _ h3; exact ⟨h1, h3⟩
      have hcl : ∀ i u, s.cells[i]? = some u → (shCells (P ++ s :: Q))[j * 4 + i]? = some u := fun i u hu => by
        have hi : i < 4 := (List.getElem?_eq_some_iff.1 hu).1
        rw [shCells_at (P ++ s :: Q) j i s (by rw [List.getElem?_append_right (by omega), hPl, Nat.sub_self]; rfl) hi]
        exact hu
      have HCL := Lib.hid hcl
      have CL : Hid (∀ w' : World, w'.ownsRow base 34 4 (.slice (some ⟨g, 0, none⟩) n c) n (shCells (P ++ s :: Q)) → w'.cell? ⟨g, j * 4, none⟩ = some (.string s.nm) ∧ w'.cell? ⟨g, j * 4 + 1, none⟩ = some (.int .i64 s.wd) ∧ w'.cell? ⟨g, j * 4 + 2, none⟩ = some (.int .i64 s.hi) ∧ w'.cell? ⟨g, j * 4 + 3, none⟩ = some (.slice s.A s.cs.length s.c) ∧
          w'.frozen? ⟨g, j * 4, none⟩ = false ∧ w'.frozen? ⟨g, j * 4 + 1, none⟩ = false ∧ w'.frozen? ⟨g, j * 4 + 2, none⟩ = false) := fun w' h => by
        refine ⟨?_, ?_, ?_, ?_, h.frozenAt _, h.frozenAt _, h.frozenAt _⟩
        · rw [h.cellAt _ (by omega)]; exact HCL.out 0 _ rfl
        · rw [h.cellAt _ (by omega)]; exact HCL.out 1 _ rfl
        · rw [h.cellAt _ (by omega)]; exact HCL.out 2 _ rfl
        · rw [h.cellAt _ (by omega)]; exact HCL.out 3 _ rfl
      have S3 := Lib.hid (set3 P Q s j kj hPl)
      have hki : (j : Int) < (n : Int) := by omega
      rw [hkj]
      clear hs hdrop htake hkj hD hP hQ hcl hv
      have MT := Lib.hid (markText_any kj wr (by omega) (by omega))
      go_wp2_with fail
      refine MT.out.mono ?_
      rintro e w1 ⟨rfl, hb1⟩
      have O1 := Lib.hid (own_below HO.out hb1)
      have R1 := Lib.hid (HR.out.below hb1)
      have B1 := Lib.hid (HB.out.trans (hb1.mono (by have := HB.out.size; omega)))
      obtain ⟨d0, d1, d2, d3, f0, f1, f2⟩ := CL.out w1 O1.out
      obtain ⟨o2, g2⟩ := O1.out.stored (j * 4) (.string (mt kj))
      obtain ⟨o3, g3⟩ := o2.stored (j * 4 + 1) (.int .i64 ((kj + 1 : Nat) : Int))
      obtain ⟨o4, g4⟩ := o3.stored (j * 4 + 2) (.int .i64 ((kj + 2 : Nat) : Int))
      rw [S3.out] at o4
      have g5 := grown_trans' (grown_trans' g2 g3) g4
      have e1 : ((kj + 1 : Nat) : Int) = (kj : Int) + 1 := by omega
      have e2 : ((kj + 2 : Nat) : Int) = (kj : Int) + 1 + 1 := by omega
      rw [e1, e2] at o4 g5
      have O4 : Hid ((((w1.setCell ⟨g, j * 4, none⟩ (.string (mt kj))).setCell ⟨g, j * 4 + 1, none⟩ (.int .i64 ((kj : Int) + 1))).setCell ⟨g, j * 4 + 1 + 1, none⟩ (.int .i64 ((kj : Int) + 1 + 1))).ownsRow base 34 4 (.slice (some ⟨g, 0, none⟩) n c) n (shCells (P ++ s.mark kj :: Q))) := o4
      have G4 : Hid (w1.grownBy (((w1.setCell ⟨g, j * 4, none⟩ (.string (mt kj))).setCell ⟨g, j * 4 + 1, none⟩ (.int .i64 ((kj : Int) + 1))).setCell ⟨g, j * 4 + 1 + 1, none⟩ (.int .i64 ((kj : Int) + 1 + 1))) (Value.slice (some ⟨g, 0, none⟩) n c).ownBlock) := g5
      clear o2 o3 o4 g2 g3 g4 g5 hb1 e1 e2
      go_wp2_with fail
      generalize ((w1.setCell ⟨g, j * 4, none⟩ (.string (mt kj))).setCell ⟨g, j * 4 + 1, none⟩ (.int .i64 ((kj : Int) + 1))).setCell ⟨g, j * 4 + 1 + 1, none⟩ (.int .i64 ((kj : Int) + 1 + 1)) = w4 at *
      have RW : Hid (∀ t ∈ P ++ s :: Q, w4.ownsRow base 4 1 t.sl t.cs.length (t.cs.map bv)) := fun t ht => own_kept (R1.out t ht) G4.out (Dis.types (R1.out t ht) O1.out (by decide))
      have MB := markBoolS_any s.A s.cs.length s.c (kj + 3) base _ w4 (by omega) (RW.out s (by simp))
      rw [show ((kj + 3 : Nat) : Int) = (kj : Int) + 1 + 1 + 1 from by omega] at MB
      refine MB.mono ?_
      rintro e w5 ⟨rfl, hm, hg⟩
      have B4 := Lib.hid (B1.out.grown G4.out (by have := B1.out.size; omega) (fun i e => (O1.out.lt i e).1))
      have B5 := Lib.hid (B4.out.grown hg (by have := B4.out.size; omega) (fun i e => ((RW.out s (by simp)).lt i e).1))
      have O5 : Hid (w5.ownsRow base 34 4 (.slice (some ⟨g, 0, none⟩) n c) n (shCells (markAll k (l.take (j + 1)) ++ l.drop (j + 1)))) := by
        unfold Hid
        rw [HQ.out, HMA.out]
        exact own_kept O4.out hg (Dis.types O4.out (RW.out s (by simp)) (by decide))
      have R5 : Hid (ShO w5 base (markAll k (l.take (j + 1)) ++ l.drop (j + 1))) := by
        unfold Hid
        rw [HQ.out, HMA.out]
        intro t ht
        rw [List.mem_append, List.mem_cons] at ht
        rcases ht with ht | rfl | ht
        · exact own_kept (RW.out t (by simp [ht])) hg (HD.out.1 t ht)
        · have e : (s.mark kj).cs = mkB (kj + 3) s.cs.length := rfl
          rw [e, mkB_len, mkB_map]
          exact hm
        · exact own_kept (RW.out t (by simp [ht])) hg (HD.out.2 t ht)
      clear hm hg MB
      go_wp2
      go_roundw
      case rel => exact ⟨j + 1, by omega, by go_num, by rw [HTE.out]; go_num, O5, R5, B5.out⟩
      case measure => simp [intOf]; omega
    · obtain rfl : j = n := by omega
      have hO := HO.out
      have hR := HR.out
      rw [List.drop_eq_nil_of_le (by rw [HL.out]; exact Nat.le_refl _), List.append_nil, List.take_of_length_le (by rw [HL.out]; exact Nat.le_refl _)] at hO hR
      have HO2 := Lib.hid hO
      have HR2 := Lib.hid hR
      have HTK : Hid (l.take j = l) := List.take_of_length_le (by rw [HL.out]; exact Nat.le_refl _)
      clear hO hR
      go_wp2
      go_ret
      exact ⟨by rw [HTK.out]; rfl, HO2.out, HR2.out, HB.out⟩
set_option maxRecDepth 100000 in
set_option maxHeartbeats 4000000 in
theorem heldShapeS_any (l : List Shp) (A : Option Addr) (n c k : Nat) (w : World) (hk0 : 0 < k) (hn : n ≤ 8) (hk : k + 259 * n < 1000000) (hl : l.length = n) (h256 : ∀ s ∈ l, s.cs.length ≤ 256) (hA : ShR w w.heap.size A n (markAll k l)) :
    Calls Try.prog 19 #[.slice A n c, .int .i64 k] w fun e w' => e = .returned (.int .i64 ((markEnd k l : Nat) : Int)) ∧ Below w.heap.size w w' := by
  have HL := Lib.hid hl
  have H256 := Lib.hid h256
  have HA := Lib.hid hA
  clear hl h256 hA
  go_enter Try.func19, Try.ntmps19
  go_wp2
  go_loopw [1, 5] (fun kv i wr => ∃ j : Nat, j ≤ n ∧ i = .int .i64 j ∧ kv = .int .i64 ((markEnd k (l.take j) : Nat) : Int) ∧ Below w.heap.size w wr) (fun _ i _ => n - (intOf i).toNat)
  case atStart => exact ⟨0, Nat.zero_le _, rfl, rfl, Below.refl _ _⟩
  case round =>
    obtain ⟨j, hj, rfl, rfl, hb⟩ := hrel
    have HB := Lib.hid hb
    have hsz := hb.size
    by_cases hlt : j < n
    · obtain ⟨s, hs⟩ : ∃ s, l[j]? = some s := ⟨_, List.getElem?_eq_getElem (by rw [HL.out]; exact hlt)⟩
      have htake : l.take (j + 1) = l.take j ++ [s] := by rw [List.take_add_one, hs]; rfl
      have hget := markAll_get l k j s hs
      obtain ⟨kj, hkj⟩ : ∃ kj, markEnd k (l.take j) = kj := ⟨_, rfl⟩
      rw [hkj] at hget
      have hk1 : kj ≤ k + 259 * j := by
        have := markEnd_le (l.take j) k (fun t ht => H256.out t (List.mem_of_mem_take ht))
        rw [hkj, List.length_take, HL.out] at this
        omega
      have hk2 : k ≤ kj := by rw [← hkj]; exact markEnd_ge _ _
      have hs256 := H256.out s (List.mem_of_getElem? hs)
      have HTE : Hid (markEnd k (l.take (j + 1)) = kj + 3 + s.cs.length) := by unfold Hid; rw [htake, markEnd_snoc, hkj]
      obtain ⟨b, off, rfl, hbb, q0, q1, q2, q3⟩ := HA.out.get hget
      have RR := HA.out.2.2 _ (List.mem_of_getElem? hget)
      have e4 : (s.mark kj).cs = mkB (kj + 3) s.cs.length := rfl
      rw [e4, mkB_len] at q3
      rw [e4, mkB_len, mkB_map] at RR
      have HRR := Lib.hid RR
      have Q : Hid (∀ w', Below w.heap.size w w' → w'.cell? ⟨b, off + j * 4, none⟩ = some (.string (mt kj)) ∧ w'.cell? ⟨b, off + j * 4 + 1, none⟩ = some (.int .i64 ((kj : Int) + 1)) ∧ w'.cell? ⟨b, off + j * 4 + 2, none⟩ = some (.int .i64 ((kj : Int) + 1 + 1)) ∧ w'.cell? ⟨b, off + j * 4 + 3, none⟩ = some (.slice s.A s.cs.length s.c)) := fun w' h => by
        refine ⟨(h.cell (p := ⟨b, off + j * 4, none⟩) hbb).trans q0, ?_, ?_, (h.cell (p := ⟨b, off + j * 4 + 3, none⟩) hbb).trans q3⟩
        · rw [h.cell (p := ⟨b, off + j * 4 + 1, none⟩) hbb, q1]; rfl
        · rw [h.cell (p := ⟨b, off + j * 4 + 2, none⟩) hbb, q2]
          have : (s.mark kj).hi = (kj : Int) + 1 + 1 := by show ((kj + 2 : Nat) : Int) = _; omega
          rw [this]
      have hki : (j : Int) < (n : Int) := by omega
      have hmm : (!(mt kj).toList == (mt kj).toList) = false := by simp
      rw [hkj]
      clear hs htake hget hkj q0 q1 q2 q3 RR e4 hb
      have MT := Lib.hid (markText_any kj wr.drew (by omega) (by omega))
      go_wp2
      go_region_held3 (fun w' => w'.cell? ⟨b, off + j * 4, none⟩ = some (.string (mt kj)) ∧ Below w.heap.size w w')
        (first | exact ⟨(Q.out _ HB.out.drew).1, HB.out.drew⟩ | exact held1 (by assumption) hb1)
        (first | (go_at_call 31; refine MT.out.mono ?_; rintro e w1 ⟨rfl, hb1⟩))
      obtain ⟨-, hb2⟩ := ‹_ ∧ Below w.heap.size w w1›
      obtain ⟨d0, d1, d2, d3⟩ := Q.out w1 hb2
      have HB2 := Lib.hid hb2
      have HD := heldBoolS_any s.A s.cs.length s.c (kj + 3) w1 (by omega) ((HRR.out.below hb2).more hb2.size)
      rw [show ((kj + 3 : Nat) : Int) = (kj : Int) + 1 + 1 + 1 from by omega] at HD
      have HHD := Lib.hid HD
      clear HD hb2
      go_wp2_with fail
      refine HHD.out.mono ?_
      rintro e w2 ⟨rfl, h2⟩
      obtain rfl := h2.symm
      go_wp2
      go_roundw
      case rel => exact ⟨j + 1, by omega, by go_num, by rw [HTE.out]; go_num, HB2.out⟩
      case measure => simp [intOf]; omega
    · obtain rfl : j = n := by omega
      have HTK : Hid (l.take j = l) := List.take_of_length_le (by rw [HL.out]; exact Nat.le_refl _)
      clear hb
      go_wp2
      go_ret
      exact ⟨by rw [HTK.out]; rfl, HB.out⟩
end Go.Proofs.Ytlklpfjcnbkhlaa

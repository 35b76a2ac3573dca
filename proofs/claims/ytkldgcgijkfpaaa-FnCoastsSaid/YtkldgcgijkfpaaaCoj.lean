/- Walk: simple. Conditions: numbers of at most 32 in their parts, at most 17 points. -/
import Derived.Test.YtkldgcgijkfpaaaCoi
import Derived.Deep.RegionHeld3
namespace Go.Proofs.Ytkldgcgijkfpaaa
open Go.RowKit
open Num Quick
attribute [local go_sem] run_store_fl run_store_cx

theorem rd_sub {w : World} {B n b off : Nat} {f : Nat → Nat × Nat} (h : Rd w B 1 (some ⟨b, off, none⟩) n ((List.range n).map (fun i => cxv (f i)))) (s m : Nat) (hm : 0 < m) (hs : s + m ≤ n) : Rd w B 1 (some ⟨b, off + s, none⟩) m ((List.range m).map (fun i => cxv (f (s + i)))) := by
  obtain ⟨b', off', e, hb, hc⟩ := h.2 (by omega)
  injection e with e
  injection e with e1 e2
  subst e1 e2
  refine ⟨by simp, fun _ => ⟨b, off + s, rfl, hb, fun j u hu => ?_⟩⟩
  by_cases hj : j < m
  · rw [range_map_get (fun i => cxv (f (s + i))) hj] at hu
    have := hc (s + j) _ (range_map_get (fun i => cxv (f i)) (show s + j < n by omega))
    rw [Nat.add_assoc]
    rw [this]
    exact hu
  · rw [List.getElem?_eq_none (by simp; omega)] at hu
    cases hu
/-- Indices that are kept: in order, between the ends. -/
structure Keep (n : Nat) (J : List Nat) : Prop where
  sorted : J.Pairwise (· < ·)
  lo : ∀ j ∈ J, 0 < j
  hi : ∀ j ∈ J, j + 1 < n
theorem Keep.nil (n : Nat) : Keep n [] := ⟨List.Pairwise.nil, fun j h => absurd h (by simp), fun j h => absurd h (by simp)⟩
theorem Keep.join {n k : Nat} {J K : List Nat} (hk : k + 2 < n) (h : Keep (k + 2) J) (g : Keep (n - (k + 1)) K) : Keep n (J ++ [k + 1] ++ K.map (fun j => k + 1 + j)) := by
  refine ⟨?_, fun j hj => ?_, fun j hj => ?_⟩
  · rw [List.pairwise_append]
    refine ⟨?_, ?_, fun a ha b hb => ?_⟩
    · rw [List.pairwise_append]
      refine ⟨h.sorted, List.pairwise_singleton _ _, fun a ha b hb => ?_⟩
      rw [List.mem_singleton.1 hb]
      have := h.hi a ha
      omega
    · rw [List.pairwise_map]
      exact g.sorted.imp (fun h => by omega)
    · obtain ⟨c, hc, rfl⟩ := List.mem_map.1 hb
      have hc0 := g.lo c hc
      rcases List.mem_append.1 ha with ha | ha
      · have := h.hi a ha
        omega
      · rw [List.mem_singleton.1 ha]
        omega
  · rcases List.mem_append.1 hj with hj | hj
    · rcases List.mem_append.1 hj with hj | hj
      · exact h.lo j hj
      · rw [List.mem_singleton.1 hj]; omega
    · obtain ⟨c, hc, rfl⟩ := List.mem_map.1 hj
      omega
  · rcases List.mem_append.1 hj with hj | hj
    · rcases List.mem_append.1 hj with hj | hj
      · have := h.hi j hj
        omega
      · rw [List.mem_singleton.1 hj]; omega
    · obtain ⟨c, hc, rfl⟩ := List.mem_map.1 hj
      have := g.hi c hc
      omega
theorem sorted_len : ∀ (J : List Nat) (lo n : Nat), J.Pairwise (· < ·) → (∀ j ∈ J, lo ≤ j ∧ j < n) → J.length ≤ n - lo
  | [], _, _, _, _ => Nat.zero_le _
  | a :: J, lo, n, h, hb => by
    have h2 := List.pairwise_cons.1 h
    have ha := hb a (by simp)
    have := sorted_len J (a + 1) n h2.2 (fun j hj => ⟨h2.1 j hj, (hb j (by simp [hj])).2⟩)
    show J.length + 1 ≤ n - lo
    omega
theorem Keep.len {n : Nat} {J : List Nat} (h : Keep n J) : J.length ≤ n - 1 := sorted_len J 1 n h.sorted (fun j hj => ⟨h.lo j hj, by have := h.hi j hj; omega⟩)
def pick3 {α : Type} (a b c : α) (k : Nat) : α := if k = 0 then a else if k = 1 then b else c
set_option maxRecDepth 100000 in
set_option maxHeartbeats 8000000 in
theorem simple_ok (near : Nat) (hnear : Fl .f32 near) : ∀ (n : Nat) (f : Nat → Nat × Nat) (b off c : Nat) (w : World), 2 ≤ n → n ≤ 17 → n ≤ c → (∀ i, i < n → Cb ((32 : Nat) : Rat) (f i)) → Rd w w.heap.size 1 (some ⟨b, off, none⟩) n ((List.range n).map (fun i => cxv (f i))) →
    Calls Try.prog 56 #[.slice (some ⟨b, off, none⟩) n c, .float .f32 near] w fun e w' => ∃ (J : List Nat) (A' : Option Addr) (m c' : Nat), e = .returned (.tuple #[.slice A' m c', .bool true]) ∧ m = J.length ∧ Rd w' w'.heap.size 1 A' m (J.map (fun j => cxv (f j))) ∧ Keep n J ∧ (1000 ≤ Num.fv .f32 near → J = []) ∧ Below w.heap.size w w' := by
  intro n
  induction n using Nat.strongRecOn with
  | ind n ih =>
    intro f b off c w hn2 hn hnc hf hA
    have HA := Lib.hid hA
    have HF := Lib.hid hf
    have HN := Lib.hid hnear
    have IH := Lib.hid ih
    clear ih hA hf
    by_cases h3 : n = 2
    · subst h3
      clear IH
      go_enter Try.func56, Try.ntmps56
      go_wp2
      go_ret2
      exact ⟨[], none, 0, 0, rfl, rfl, Rd.nil, Keep.nil _, fun _ => rfl, Below.refl _ _⟩
    · obtain ⟨last, hlast⟩ : ∃ l, n - 1 = l := ⟨_, rfl⟩
      have hl1 : (n : Int) - 1 = (last : Int) := by omega
      have hl2 : ¬ (last : Int) < 2 := by omega
      have hm1 : 1 ≤ last - 1 := by omega
      have hn0 : 0 < n := by omega
      have FA := Lib.hid (fun (w' : World) (hb : Below w.heap.size w w') => farthest_ok (f := fun i => f (1 + i)) (a := f 0) (b := f last) (some ⟨b, off + 1, none⟩) (last - 1) (c - 1) w' hm1 (by omega) (fun i hi => HF.out (1 + i) (by omega)) (HF.out 0 (by omega)) (HF.out last (by omega)) ((rd_sub (HA.out.below hb) 1 (last - 1) (by omega) (by omega)).more hb.size))
      obtain ⟨b', off', e', hbb, hc⟩ := HA.out.2 (by omega)
      injection e' with e'
      injection e' with e1 e2
      subst e1 e2
      have c0' := hc 0 _ (range_map_get (fun i => cxv (f i)) (show 0 < n by omega))
      have cL := hc last _ (range_map_get (fun i => cxv (f i)) (show last < n by omega))
      obtain ⟨P, eP⟩ : ∃ p, f 0 = p := ⟨_, rfl⟩
      obtain ⟨L, eL⟩ : ∃ p, f last = p := ⟨_, rfl⟩
      rw [eP] at FA c0'
      rw [eL] at FA cL
      obtain ⟨P1, P2⟩ := P
      obtain ⟨L1, L2⟩ := L
      unfold cxv at c0' cL
      simp only [Nat.add_zero] at c0' cL FA
      have HM := Lib.hid hlast
      have hlc : last ≤ c := by omega
      have hlcI : (last : Int) ≤ (c : Int) := by omega
      have h1l : (1 : Int) ≤ (last : Int) := by omega
      have hln : (last : Int) < (n : Int) := by omega
      have hln2 : (0 : Int) ≤ (last : Int) := by omega
      have hcne : ¬ c = 1 := by omega
      have h0n : (0 : Int) < (n : Int) := by omega
      have FC : Hid (Calls Try.prog 58 #[.slice (some ⟨b, off + 1, none⟩) (last - 1) (c - 1), .complex .f32 P1 P2, .complex .f32 L1 L2] w.drew fun e w' => ∃ k most : Nat, e = .returned (.tuple #[.int .i64 (k : Int), .float .f32 most, .bool true]) ∧ w' = w.drew ∧ k < last - 1 ∧ Hid (Fl .f32 most ∧ 0 ≤ Num.fv .f32 most ∧ Num.fv .f32 most ≤ 1000)) := Lib.hid ((FA.out _ (Below.refl _ _).drew).mono (fun e w' h => by obtain ⟨k, most, h1, h2, h3, h4⟩ := h; exact ⟨k, most, h1, h2, h3, h4⟩))
      have SPH : Hid (∀ w', Below w.heap.size w w' → w'.cell? ⟨b, off, none⟩ = some (.complex .f32 P1 P2) ∧ w'.cell? ⟨b, off + last, none⟩ = some (.complex .f32 L1 L2) ∧ Below w.heap.size w w') := Lib.hid fun w' hb => ⟨(hb.cell (p := ⟨b, off, none⟩) hbb).trans c0', (hb.cell (p := ⟨b, off + last, none⟩) hbb).trans cL, hb⟩
      clear hc eP eL hlast c0' cL FA
      go_enter Try.func56, Try.ntmps56
      go_wp2
      go_region_held3 (fun w' => w'.cell? ⟨b, off, none⟩ = some (.complex .f32 P1 P2) ∧ w'.cell? ⟨b, off + last, none⟩ = some (.complex .f32 L1 L2) ∧ Below w.heap.size w w')
        (first
          | exact SPH.out _ (Below.refl _ _).drew
          | go_keep)
        (first
          | (go_at_call 58; with_reducible refine Calls.mono FC.out ?_; rintro e w5 ⟨k, most, rfl, hw5, hk, HMO⟩; obtain rfl := hw5.symm))
      all_goals
        have V5 : Hid (Below w.heap.size w w.drew) := Lib.hid (Below.refl _ _).drew
        clear FC SPH
        obtain ⟨gb, hgb⟩ : ∃ g, (FloatKind.f32.format.order most near == some .gt) = g := ⟨_, rfl⟩
        cases gb with
        | false =>
          clear IH
          go_wp2
          go_ret2
          exact ⟨[], none, 0, 0, rfl, rfl, Rd.nil, Keep.nil _, fun _ => rfl, V5.out⟩
        | true =>
          have HNR : Hid (1000 ≤ Num.fv .f32 near → False) := Lib.hid fun h1 => by
            obtain ⟨m1, m2, m3⟩ := HMO.out
            have := (le_cmp m1 HN.out (Rat.le_trans m3 h1)).2
            rw [this] at hgb
            cases hgb
          have hln3 : last + 1 = n := by have := HM.out; omega
          obtain ⟨k1, hk1⟩ : ∃ y, k + 1 = y := ⟨_, rfl⟩
          obtain ⟨k2, hk2⟩ : ∃ y, k + 2 = y := ⟨_, rfl⟩
          have hk1I : (k : Int) + 1 = (k1 : Int) := by omega
          have hk2I : (k : Int) + 2 = (k2 : Int) := by omega
          have hk2c : (k2 : Int) ≤ (c : Int) := by omega
          have hk2n : (k2 : Int) ≤ (n : Int) := by omega
          have hk1n : (k1 : Int) ≤ (n : Int) := by omega
          have hk1l : (k1 : Int) < (n : Int) := by omega
          have hk1c : ¬ c = k1 := by omega
          have IL := Lib.hid (IH.out k2 (by omega) f b off c w.drew (by omega) (by omega) (by omega) (fun i hi => HF.out i (by omega)) (by
            have h0 := rd_sub (HA.out.below V5.out) 0 k2 (by omega) (by omega)
            simp only [Nat.add_zero, Nat.zero_add] at h0
            exact h0.more V5.out.size))
          have HK := Lib.hid (show k + 1 = k1 ∧ k + 2 = k2 ∧ k1 + 1 < n from ⟨hk1, hk2, by omega⟩)
          clear hk1 hk2 hln3
          go_wp2_with fail
          refine IL.out.mono ?_
          rintro e w6 ⟨J1, A1, m1, c1, rfl, hm1', hR1, hK1, _, hb6⟩
          have V6 := Lib.hid (V5.out.trans (hb6.mono V5.out.size))
          have R1 := Lib.hid hR1
          have K1 := Lib.hid (show _ ∧ _ from ⟨hm1', hK1⟩)
          have IR := Lib.hid (IH.out (n - k1) (by have := HK.out; omega) (fun i => f (k1 + i)) b (off + k1) (c - k1) w6 (by have := HK.out; omega) (by omega) (by omega) (fun i hi => HF.out (k1 + i) (by omega)) ((rd_sub (HA.out.below V6.out) k1 (n - k1) (by have := HK.out; omega) (by omega)).more V6.out.size))
          clear hR1 hm1' hK1 hb6 IL IH V5
          go_wp2_with fail
          refine IR.out.mono ?_
          rintro e w7 ⟨J2, A2, m2, c2, rfl, hm2', hR2, hK2, _, hb7⟩
          have V7 := Lib.hid (V6.out.trans (hb7.mono V6.out.size))
          have R1' := Lib.hid ((R1.out.below hb7).more hb7.size)
          have R2 := Lib.hid hR2
          have K2 := Lib.hid (show _ ∧ _ from ⟨hm2', hK2⟩)
          obtain ⟨bz, oz, ez, _, hcz⟩ := (HA.out.below V7.out).2 (by omega)
          injection ez with ez
          injection ez with ez1 ez2
          subst ez1 ez2
          have cZ := hcz k1 _ (range_map_get (fun i => cxv (f i)) (show k1 < n by have := HK.out; omega))
          obtain ⟨Z, eZ⟩ : ∃ p, f k1 = p := ⟨_, rfl⟩
          rw [eZ] at cZ
          obtain ⟨Z1, Z2⟩ := Z
          unfold cxv at cZ
          simp only at cZ
          have HZ := Lib.hid eZ
          have hJ1 : m1 ≤ 17 := by
            have a := K1.out.1
            have := K1.out.2.len
            omega
          have hJ2 : m2 ≤ 17 := by
            have a := K2.out.1
            have := K2.out.2.len
            omega
          obtain ⟨v, ev⟩ : ∃ v, v = (w7.alloc (.cells #[.complex .f32 Z1 Z2] 37)).alloc (.cells #[.slice A1 m1 c1, .slice (some ⟨w7.heap.size, 0, none⟩) 1 1, .slice A2 m2 c2] 27) := ⟨_, rfl⟩
          have VV : Hid (Below w7.heap.size w7 v) := by rw [ev]; exact Lib.hid (((Below.refl _ _).alloc (Nat.le_refl _) _).alloc (by simp) _)
          have BZ : Hid (Blk v w7.heap.size 37 #[.complex .f32 Z1 Z2]) := by rw [ev]; exact Lib.hid ((Blk.new w7 _ _).alloc _)
          have BS : Hid (Blk v (w7.heap.size + 1) 27 #[.slice A1 m1 c1, .slice (some ⟨w7.heap.size, 0, none⟩) 1 1, .slice A2 m2 c2]) := by rw [ev]; exact Lib.hid (Blk.new2 w7 _ _ _)
          have EV := Lib.hid ev
          have CC := Lib.hid (Concat_ok (pick3 A1 (some ⟨w7.heap.size, 0, none⟩) A2) (pick3 m1 1 m2) (pick3 c1 1 c2) (pick3 (J1.map (fun j => cxv (f j))) [cxv (Z1, Z2)] (J2.map (fun j => cxv (f (k1 + j))))) (w7.heap.size + 1) v (by show 1 ≤ 0 + m1 + 1 + m2; omega) (by show 0 + m1 + 1 + m2 ≤ 1000; omega) (fun k hk => by
              rcases (by omega : k = 0 ∨ k = 1 ∨ k = 2) with rfl | rfl | rfl
              · exact BS.out.cell 0
              · exact BS.out.cell 1
              · exact BS.out.cell 2) BS.out.lt (fun k hk => by
              rcases (by omega : k = 0 ∨ k = 1 ∨ k = 2) with rfl | rfl | rfl
              · exact (R1'.out.below VV.out).more VV.out.size
              · refine ⟨rfl, fun _ => ⟨w7.heap.size, 0, rfl, BZ.out.lt, fun j u hj => ?_⟩⟩
                have : j = 0 := by
                  by_cases h : j = 0
                  · exact h
                  · rw [List.getElem?_eq_none (by show 1 ≤ j; omega)] at hj
                    cases hj
                subst this
                exact (BZ.out.cell 0).trans hj
              · exact (R2.out.below VV.out).more VV.out.size) (fun k hk u hu => by
              rcases (by omega : k = 0 ∨ k = 1 ∨ k = 2) with rfl | rfl | rfl
              · obtain ⟨j, _, rfl⟩ := List.mem_map.1 hu; rfl
              · rw [List.mem_singleton.1 hu]; rfl
              · obtain ⟨j, _, rfl⟩ := List.mem_map.1 hu; rfl))
          clear hm2' hR2 hK2 hb7 hcz eZ ev IR R1 R1' R2 V6
          go_wp2_with fail
          rw [← EV.out]
          refine CC.out.mono ?_
          rintro e w8 ⟨g8, c8, rfl, ho8, hb8⟩
          have R8 := Lib.hid (Rd.own ho8)
          have V8 := Lib.hid (V7.out.trans ((VV.out.trans (hb8.mono VV.out.size)).mono V7.out.size))
          clear ho8 hb8 CC EV VV BZ BS V7
          go_wp2
          go_ret2
          obtain ⟨j1, j2, j3⟩ := HK.out
          have e12 : k2 = k + 2 := by omega
          refine ⟨J1 ++ [k1] ++ J2.map (fun j => k1 + j), _, _, _, rfl, ?_, ?_, ?_, fun h => (HNR.out h).elim, V8.out⟩
          · have a := K1.out.1
            have b := K2.out.1
            show 0 + m1 + 1 + m2 = _
            simp
            omega
          · have h := R8.out
            have e : ycat (pick3 (J1.map (fun j => cxv (f j))) [cxv (Z1, Z2)] (J2.map (fun j => cxv (f (k1 + j))))) 3 = (J1 ++ [k1] ++ J2.map (fun j => k1 + j)).map (fun j => cxv (f j)) := by
              show ([] ++ J1.map _) ++ [cxv (Z1, Z2)] ++ J2.map _ = _
              rw [List.map_append, List.map_append, List.map_map, List.map_cons, List.map_nil, HZ.out]
              rfl
            rw [e] at h
            exact h
          · have h1 := K1.out.2
            have h2 := K2.out.2
            rw [e12] at h1
            rw [← j1] at h2 ⊢
            exact Keep.join (by omega) h1 h2
end Go.Proofs.Ytkldgcgijkfpaaa

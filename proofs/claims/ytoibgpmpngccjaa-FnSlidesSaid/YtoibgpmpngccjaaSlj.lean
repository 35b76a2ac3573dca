/- Plain law: what slides is kept: one slide of two places. Conditions: heights in quarters, at most 4; shares in parts of 32. -/
import Derived.Test.YtoibgpmpngccjaaSla
import Derived.Test.YtoibgpmpngccjaaSlb
import Derived.Test.YtoibgpmpngccjaaNs
namespace Go.Proofs.Ytoibgpmpngccjaa
open Go.RowKit
open Num Quick

theorem nbs_ne {W H i k : Nat} (hW : 1 ≤ W) (h : k ∈ nbs W H i) : k ≠ i := by
  unfold nbs nb1 nb2 nb3 nb4 at h
  simp only [List.mem_append] at h
  rcases h with ((h | h) | h) | h <;> split at h <;> simp at h
  · omega
  · rename_i hm
    have : i ≠ 0 := by intro e; subst e; simp at hm
    omega
  · omega
  · omega
/-- What slides so far: t moves at most. -/
structure TalS (N : Nat) (ms : Nat → Int) (s b : Int) (xs O : List Nat) (sm t : Nat) : Prop where
  len : O.length = N
  zs : ∃ zs : Nat → Int, ∀ k, k < N → Gn 7 (zs k) (O.getD k 0) ∧ (zs k).natAbs ≤ 512 + 128 * t
  mass : msum O = msum xs
  sum : ∃ S : Int, Gn 7 S sm ∧ 0 ≤ S ∧ S ≤ 128 * t
  same : (∀ a b, a < N → b < N → ms a - ms b ≤ s) → O = xs ∧ sm = 0
theorem TalS.more {N : Nat} {ms : Nat → Int} {s b : Int} {xs O : List Nat} {sm t t' : Nat} (h : TalS N ms s b xs O sm t) (ht : t ≤ t') : TalS N ms s b xs O sm t' := by
  obtain ⟨zs, hz⟩ := h.zs
  obtain ⟨S, h1, h2, h3⟩ := h.sum
  exact ⟨h.len, ⟨zs, fun k hk => ⟨(hz k hk).1, by have := (hz k hk).2; omega⟩⟩, h.mass, ⟨S, h1, h2, by omega⟩, h.same⟩
theorem tal_start {N : Nat} {ms : Nat → Int} {s b : Int} {xs : List Nat} (hl : xs.length = N) (hx : ∀ k, k < N → Gn 2 (ms k) (xs.getD k 0)) (hm : ∀ k, k < N → (ms k).natAbs ≤ 16) : TalS N ms s b xs xs 0 0 := by
  refine ⟨hl, ⟨fun k => ms k * 2 ^ 5, fun k hk => ⟨(hx k hk).up 5, ?_⟩⟩, rfl, ⟨0, Gn.zero 7, by omega, by omega⟩, fun _ => ⟨rfl, rfl⟩⟩
  have := hm k hk
  show (ms k * 32).natAbs ≤ _
  omega
theorem tal_step {N : Nat} {ms : Nat → Int} {s b : Int} {xs O : List Nat} {sm t i k st sh : Nat} (h : TalS N ms s b xs O sm t) (hx : ∀ k, k < N → Gn 2 (ms k) (xs.getD k 0)) (hm : ∀ k, k < N → (ms k).natAbs ≤ 16) (hst : Gn 2 s st) (hs0 : 0 ≤ s) (hs1 : s ≤ 16) (hsh : Gn 5 b sh) (hb0 : 0 ≤ b) (hb1 : b ≤ 4)
    (hi : i < N) (hk : k < N) (hne : k ≠ i) (ht : t ≤ 1000) :
    ∃ w1 w2, floatBits .sub .f32 (xs.getD i 0) (xs.getD k 0) = some w1 ∧ floatBits .sub .f32 w1 st = some w2 ∧
      (((FloatKind.f32.format.order w2 0 == some .gt) = false ∧ TalS N ms s b xs O sm (t + 1)) ∨
       ((FloatKind.f32.format.order w2 0 == some .gt) = true ∧ ∃ m p q r, floatBits .mul .f32 sh w2 = some m ∧ floatBits .sub .f32 (O.getD i 0) m = some p ∧ floatBits .add .f32 ((O.set i p).getD k 0) m = some q ∧ floatBits .add .f32 sm m = some r ∧ TalS N ms s b xs ((O.set i p).set k q) r (t + 1))) := by
  have m1 := hm i hi
  have m2 := hm k hk
  obtain ⟨w1, e1, g1⟩ := (hx i hi).sub (hx k hk) (by omega) (by omega)
  obtain ⟨w2, e2, g2⟩ := g1.sub hst (by omega) (by omega)
  refine ⟨w1, w2, e1, e2, ?_⟩
  have hg := g2.gt (Gn.zero 2)
  by_cases hd : 0 < ms i - ms k - s
  · right
    refine ⟨by rw [hg]; simpa using hd, ?_⟩
    have hbd := Int.mul_nonneg hb0 (show 0 ≤ ms i - ms k - s by omega)
    have hbd2 : b * (ms i - ms k - s) ≤ 4 * 32 := Int.mul_le_mul hb1 (by omega) (by omega) (by omega)
    obtain ⟨m, e3, g3⟩ := hsh.mul g2 (by omega) (by omega)
    obtain ⟨D, eD⟩ : ∃ D, b * (ms i - ms k - s) = D := ⟨_, rfl⟩
    rw [eD] at g3 hbd hbd2
    have g3 : Gn 7 D m := g3
    obtain ⟨zs, hz⟩ := h.zs
    obtain ⟨S, s1, s2, s3⟩ := h.sum
    have z1 := hz i hi
    have z2 := hz k hk
    obtain ⟨p, e4, g4⟩ := z1.1.sub g3 (by omega) (by omega)
    have hik : (O.set i p).getD k 0 = O.getD k 0 := get_set_ne (fun e => hne e.symm)
    obtain ⟨q, e5, g5⟩ := z2.1.add g3 (by omega) (by omega)
    obtain ⟨r, e6, g6⟩ := s1.add g3 (by omega) (by omega)
    refine ⟨m, p, q, r, e3, e4, by rw [hik]; exact e5, e6, ?_⟩
    refine ⟨by rw [List.length_set, List.length_set]; exact h.len, ⟨fun j => if j = k then zs k + D else if j = i then zs i - D else zs j, fun j hj => ?_⟩, ?_, ⟨S + D, g6, by omega, by omega⟩, fun hall => ?_⟩
    · dsimp only
      by_cases c1 : j = k
      · subst c1
        rw [get_set_eq (by rw [List.length_set, h.len]; exact hj), if_pos rfl]
        exact ⟨g5, by omega⟩
      · rw [get_set_ne (fun e => c1 e.symm), if_neg c1]
        by_cases c2 : j = i
        · subst c2
          rw [get_set_eq (by rw [h.len]; exact hj), if_pos rfl]
          exact ⟨g4, by omega⟩
        · rw [get_set_ne (fun e => c2 e.symm), if_neg c2]
          have := hz j hj
          exact ⟨this.1, by omega⟩
    · rw [msum_set _ _ _ (by rw [List.length_set, h.len]; exact hk), hik, msum_set _ _ _ (by rw [h.len]; exact hi), ← h.mass]
      have a1 := g4.val
      have a2 := g5.val
      have a3 := z1.1.val
      have a4 := z2.1.val
      rw [a1, a2, a3, a4, Rat.intCast_sub, Rat.intCast_add]
      have hp := pow_pos' 7
      grind
    · have := hall i k hi hk
      omega
  · left
    exact ⟨by rw [hg]; simpa using hd, h.more (by omega)⟩
theorem TalS.bound {N : Nat} {ms : Nat → Int} {s b : Int} {xs O : List Nat} {sm t : Nat} (h : TalS N ms s b xs O sm t) (ht : t ≤ 1000) : O.all finW = true ∧ Fl .f32 sm ∧ 0 ≤ Num.fv .f32 sm ∧ ∃ zs : Nat → Int, ∀ k, k < N → Gn 7 (zs k) (O.getD k 0) ∧ (zs k).natAbs ≤ 512 + 128 * t := by
  obtain ⟨zs, hz⟩ := h.zs
  obtain ⟨S, s1, s2, s3⟩ := h.sum
  refine ⟨?_, s1.fin, ?_, zs, hz⟩
  · rw [List.all_eq_true]
    intro x hx
    obtain ⟨k, hk, e⟩ := List.mem_iff_getElem.1 hx
    have := (hz k (by rw [← h.len]; exact hk)).1.fin
    rw [List.getD_eq_getElem?_getD, List.getElem?_eq_getElem hk] at this
    rw [← e]
    exact fin_fl this
  · rw [s1.val]
    have hp := pow_pos' 7
    have : (0 : Rat) ≤ (S : Rat) := by
      have := Rat.intCast_le_intCast.2 s2
      exact this
    generalize ((2 ^ 7 : Nat) : Rat) = T at *
    generalize (S : Rat) = x at *
    have hi : 0 < T⁻¹ := Rat.inv_pos.2 hp
    rw [Rat.div_def]
    exact Rat.mul_nonneg this (Rat.le_of_lt hi)
end Go.Proofs.Ytoibgpmpngccjaa

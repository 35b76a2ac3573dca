/- Plain law: the word that leads near to a number, as both reckon it. -/
import Derived.Test.YtbpgbplepebcjaaSwl
import Derived.Test.YtbpgbplepebcjaaSwb
namespace Go.Proofs.Ytbpgbplepebcjaa
open Go.RowKit
open Num Quick

structure LongB (r : Nat × Nat) (l : Nat) : Prop where
  im : ∀ w : World, Calls Try.prog 55 #[.complex .f32 r.1 r.2] w fun e w' => e = .returned (.float .f32 l) ∧ w' = w
  sp : ∀ w : World, Calls Try.prog 61 #[.complex .f32 r.1 r.2] w fun e w' => e = .returned (.float .f32 l) ∧ w' = w
  fl : Fl .f32 l
open Classical in
noncomputable def bkN (x : Sm) (z : Nat × Nat) : Nat × Nat := if h : ∃ r, BackB x z r then Classical.choose h else (0, 0)
open Classical in
noncomputable def lnN (r : Nat × Nat) : Nat := if h : ∃ l, LongB r l then Classical.choose h else 0
theorem bkN_spec {N : Nat} {x : Sm} {z : Nat × Nat} (hx : x.ok N) (h1 : Fl .f32 z.1) (h2 : Fl .f32 z.2) (hs : smallP z) : BackB x z (bkN x z) := by
  have h := back_both hx h1 h2 hs.1 hs.2
  unfold bkN
  rw [dif_pos h]
  exact Classical.choose_spec h
theorem lnN_spec {x : Sm} {z r : Nat × Nat} (h : BackB x z r) : LongB r (lnN r) := by
  have m : (65536 : Rat) ≤ mid := by decide +kernel
  obtain ⟨l, l1, l2, l3⟩ := long_both h.f1 h.f2 (in_mono h.i1 m) (in_mono h.i2 m)
  have h : ∃ l, LongB r l := ⟨l, l1, l2, l3.fin⟩
  unfold lnN
  rw [dif_pos h]
  exact Classical.choose_spec h
def ltw (l m : Nat) : Bool := FloatKind.f32.format.order l m == some .lt
/-- The first map, among the first i, that leads back to the least. -/
noncomputable def bst (L : List Sm) (z : Nat × Nat) : Nat → Nat
  | 0 => 0
  | i + 1 => if i = 0 then 0 else if ltw (lnN (bkN (L.getD i noSm) z)) (lnN (bkN (L.getD (bst L z i) noSm) z)) then i else bst L z i
theorem bst_lt (L : List Sm) (z : Nat × Nat) : ∀ i, 0 < i → bst L z i < i
  | i + 1, _ => by
    unfold bst
    by_cases h0 : i = 0
    · rw [if_pos h0]; omega
    · rw [if_neg h0]
      have := bst_lt L z i (by omega)
      split <;> omega
/-- The number behind m letters. -/
noncomputable def zsN (L : List Sm) (N : Nat) (z : Nat × Nat) : Nat → Nat × Nat
  | 0 => z
  | m + 1 => bkN (L.getD (bst L (zsN L N z m) N) noSm) (zsN L N z m)
noncomputable def letters (L : List Sm) (N : Nat) (z : Nat × Nat) (l : Nat) : List Nat := (List.range l).map fun m => bst L (zsN L N z m) N
theorem letters_succ (L : List Sm) (N : Nat) (z : Nat × Nat) (l : Nat) : letters L N z (l + 1) = letters L N z l ++ [bst L (zsN L N z l) N] := by
  unfold letters
  rw [List.range_succ, List.map_append]
  rfl
/-- Finite and small. -/
def FinP (z : Nat × Nat) : Prop := Fl .f32 z.1 ∧ Fl .f32 z.2
theorem zs_back {L : List Sm} {N : Nat} {z : Nat × Nat} {m : Nat} (hN : 0 < N) (hL : L.length = N) (hok : ∀ x ∈ L, x.ok N) (hf : FinP (zsN L N z m)) (hs : smallP (zsN L N z m)) {i : Nat} (hi : i < N) :
    BackB (L.getD i noSm) (zsN L N z m) (bkN (L.getD i noSm) (zsN L N z m)) :=
  bkN_spec (hok _ (List.mem_of_getElem? (getS (by rw [hL]; exact hi)))) hf.1 hf.2 hs
theorem turn_ne {N : Nat} {x : Sm} (hx : x.ok N) : (FloatKind.f32.format.order x.a 0 == some .eq) = false := by
  rw [cmp_gt' hx.a.fin c0.1 (by rw [c0.2]; have := hx.a1; grind)]; decide
/-- All numbers on the way are small. -/
def allSmall (L : List Sm) (N : Nat) (z : Nat × Nat) (l : Nat) : Prop := ∀ m, m < l → smallP (zsN L N z (m + 1))
end Go.Proofs.Ytbpgbplepebcjaa

/- Plain law: the rows that the law on turtles holds, as points of one way. Conditions: none. -/
import Derived.Test.YtkldgcgijkfpaaaTuq
import Derived.Test.YtkldgcgijkfpaaaTuf
import Derived.Test.YtkldgcgijkfpaaaEa
namespace Go.Proofs.Ytkldgcgijkfpaaa
open Go.RowKit
open Num Quick

theorem rowF {L : List (Nat × Nat)} {m : Nat} {f : Nat → Nat × Nat} (hl : L.length = m) (h : ∀ j, j < m → L.getD j (0, 0) = f j) : L.map cxv = (List.range m).map (fun j => cxv (f j)) := by
  rw [cx_list, hl]
  exact List.map_congr_left fun j hj => by rw [h j (List.mem_range.1 hj)]
theorem getD_second {α : Type} {L M : List α} {d : α} (j : Nat) : (L ++ M).getD (L.length + j) d = M.getD j d := by
  rw [List.getD_eq_getElem?_getD, List.getD_eq_getElem?_getD, List.getElem?_append_right (by omega)]
  congr 2
  omega
theorem getD_first {α : Type} {L M : List α} {d : α} {j : Nat} (h : j < L.length) : (L ++ M).getD j d = L.getD j d := by
  rw [List.getD_eq_getElem?_getD, List.getD_eq_getElem?_getD, List.getElem?_append_left h]
/-- The index within the first half. -/
def half (m j : Nat) : Nat := if j < m then j else j - m
structure Rows_ (Z : TS) (P : Nat → Nat × Nat) (m : Nat) : Prop where
  line : ((0, 0) :: Z.en).map cxv = (List.range (1 + m)).map (fun j => cxv (P j))
  from_ : Z.bg.map cxv = (List.range m).map (fun j => cxv (P j))
  to_ : Z.en.map cxv = (List.range m).map (fun j => cxv (P (j + 1)))
  both : (Z.bg ++ Z.bg).map cxv = (List.range (2 * m)).map (fun j => cxv (P (half m j)))
  ends : (Z.en ++ Z.en).map cxv = (List.range (2 * m)).map (fun j => cxv (P (half m j + 1)))
theorem WInv.rows {k : Nat} {s : Rat} {i : Nat} {Z : TS} (h : WInv k s i Z) : Rows_ Z (plc Z) Z.en.length := by
  have e1 : ∀ j, j < Z.en.length → Z.en.getD j (0, 0) = plc Z (j + 1) := fun j _ => rfl
  have hd : ∀ {L : List (Nat × Nat)} {g : Nat → Nat × Nat}, L.length = Z.en.length → (∀ j, j < Z.en.length → L.getD j (0, 0) = g j) → ∀ j, j < 2 * Z.en.length → (L ++ L).getD j (0, 0) = g (half Z.en.length j) := fun {L g} hl hg j hj => by
    unfold half
    by_cases c : j < Z.en.length
    · rw [if_pos c, getD_first (by omega)]
      exact hg j c
    · rw [if_neg c]
      obtain ⟨i, rfl⟩ : ∃ i, j = L.length + i := ⟨j - L.length, by omega⟩
      rw [getD_second, hg i (by omega)]
      congr 1
      omega
  refine ⟨rowF (by simp; omega) (fun j _ => rfl), rowF h.len h.bg, rowF rfl e1, rowF (by rw [List.length_append, h.len]; omega) (hd h.len h.bg), rowF (by rw [List.length_append]; omega) (hd (g := fun j => plc Z (j + 1)) rfl e1)⟩
theorem len_facts {s : Rat} {P : Nat → Nat × Nat} {m : Nat} (hW : Way s P m) (s0 : 0 ≤ s) (s2 : s ≤ 2) (hm : m ≤ 16) : ∃ pw sm, LSum P (m + 1) pw sm ∧ Fl .f32 (sm (m + 1)) ∧ InR (Num.fv .f32 (sm (m + 1)) - (m : Rat) * s) (1 / 1000) := by
  obtain ⟨pw, sm, h1, h2, h3⟩ := len_line (f := P) (R := s) (d := 1 / 60000 + 1 / 100000) hm s0 (by grind) (by decide +kernel) (by decide +kernel) (fun k hk => by
    have A := hW.cb s0 s2 hm k (by omega)
    have B := hW.cb s0 s2 hm (k + 1) (by omega)
    exact pc_ex A.1 A.2.1 B.1 B.2.1 s0 (by grind) (by decide +kernel) (by decide +kernel) ((hW.mv k hk).near s0 s2))
  refine ⟨pw, sm, h1, h2, in_le h3 ?_⟩
  have := Rat.natCast_le_natCast.2 hm
  have e : ((16 : Nat) : Rat) = 16 := rfl
  rw [e] at this
  grind
theorem many_le {m : Nat} {c B : Rat} (hm : m ≤ 16) (hc : 0 ≤ c) (h : 16 * c ≤ B) : (m : Rat) * c ≤ B := by
  have := Rat.natCast_le_natCast.2 hm
  have e : ((16 : Nat) : Rat) = 16 := rfl
  rw [e] at this
  have m1 := Rat.mul_le_mul_of_nonneg_right this hc
  exact Rat.le_trans m1 h
/-- The moved line and its length. -/
theorem moved_facts {s : Rat} {P : Nat → Nat × Nat} {m b1 b2 : Nat} (hW : Way s P m) (s0 : 0 ≤ s) (s2 : s ≤ 2) (hm : m ≤ 16) (f1 : Fl .f32 b1) (f2 : Fl .f32 b2) (i1 : InR (Num.fv .f32 b1) 2) (i2 : InR (Num.fv .f32 b2) 2) :
    ∃ Q pw sm, (∀ k, k < 1 + m → floatBits .add .f32 (P k).1 b1 = some (Q k).1) ∧ (∀ k, k < 1 + m → floatBits .add .f32 (P k).2 b2 = some (Q k).2) ∧ (∀ k, k < 1 + m → Cb 36 (Q k)) ∧ LSum Q (1 + m) pw sm ∧ Fl .f32 (sm (1 + m)) ∧ InR (Num.fv .f32 (sm (1 + m)) - (m : Rat) * s) (1 / 1000) := by
  obtain ⟨Q, q1, q2, q3, q4⟩ := moved_ex hW s0 s2 hm f1 f2 i1 i2
  obtain ⟨pw, sm, h1, h2, h3⟩ := len_line (f := Q) (R := s) (d := 1 / 20000) hm s0 (by grind) (by decide +kernel) (by decide +kernel) q4
  rw [Nat.add_comm m 1] at q1 q2 q3 h1 h2 h3
  exact ⟨Q, pw, sm, q1, q2, q3, h1, h2, in_le h3 (many_le hm (by decide +kernel) (by decide +kernel))⟩
/-- The turned line, its length and its area. -/
theorem turned_facts {s : Rat} {P : Nat → Nat × Nat} {m a c : Nat} (hW : Way s P m) (s0 : 0 ≤ s) (s2 : s ≤ 2) (hm : m ≤ 16) (hu : Trn.Unit a c) :
    ∃ b1 b2 T pw sm sd sn A sd' sn' D, floatBits .mul .f32 a 1073741824 = some b1 ∧ floatBits .mul .f32 c 1073741824 = some b2 ∧ (∀ k, k < 1 + m → ∀ w : World, Calls Try.prog 46 #[.complex .f32 (P k).1 (P k).2, .complex .f32 b1 b2] w fun e w' => e = .returned (.complex .f32 (T k).1 (T k).2) ∧ w' = w) ∧ (∀ k, k < 1 + m → Cb 70 (T k)) ∧
      LSum T (1 + m) pw sm ∧ Fl .f32 (sm (1 + m)) ∧ InR (Num.fv .f32 (sm (1 + m)) - 2 * ((m : Rat) * s)) (1 / 400) ∧ ASum P (1 + m) sd sn A ∧ ASum T (1 + m) sd' sn' D ∧ InR (4 * Num.fv .f32 A - Num.fv .f32 D) (1 / 64) ∧ InR (Num.fv .f32 D) 4096 ∧ InR (Num.fv .f32 A) 4096 := by
  obtain ⟨b1, b2, k1, k2, f1, f2, hb⟩ := dbl_ex hu
  obtain ⟨T, hT, hL⟩ := turned_ex hW s0 s2 hm f1 f2 hb
  obtain ⟨pw, sm, h1, h2, h3⟩ := len_line (f := T) (R := 2 * s) (d := 1 / 7000) hm (by grind) (by grind) (by decide +kernel) (by decide +kernel) hL
  obtain ⟨sd, sn, A, sd', sn', D, a1, a2, a3, a4, a5⟩ := area_law hW s0 s2 hm hb hT
  rw [Nat.add_comm m 1] at hT h1 h2 h3 a1 a2
  refine ⟨b1, b2, T, pw, sm, sd, sn, A, sd', sn', D, k1, k2, fun k hk => (hT k hk).call, fun k hk => (hT k hk).cb, h1, h2, ?_, a1, a2, a3, a4, a5⟩
  rw [show 2 * ((m : Rat) * s) = (m : Rat) * (2 * s) by grind]
  exact in_le h3 (many_le hm (by decide +kernel) (by decide +kernel))
theorem WInv.cbs {k : Nat} {s : Rat} {i : Nat} {Z : TS} (h : WInv k s i Z) (s0 : 0 ≤ s) (s2 : s ≤ 2) (hi : i ≤ 16) : (∀ z ∈ Z.bg, Cb 33 z) ∧ ∀ z ∈ Z.en, Cb 33 z := by
  have hm : Z.en.length ≤ 16 := by have := h.le; omega
  refine ⟨fun z hz => ?_, fun z hz => ?_⟩
  · obtain ⟨j, hj, e⟩ := List.getElem_of_mem hz
    have := h.bg j (by rw [← h.len]; exact hj)
    rw [List.getD_eq_getElem?_getD, List.getElem?_eq_getElem hj, Option.getD_some, e] at this
    rw [this]
    exact h.way.cb s0 s2 hm j (by have := h.len; omega)
  · obtain ⟨j, hj, e⟩ := List.getElem_of_mem hz
    have : Z.en.getD j (0, 0) = plc Z (j + 1) := rfl
    rw [List.getD_eq_getElem?_getD, List.getElem?_eq_getElem hj, Option.getD_some, e] at this
    rw [this]
    exact h.way.cb s0 s2 hm (j + 1) (by omega)
theorem runT_end (n : Nat) (S : Nat → TS) : (runT n S (2 * n + 2)).bg = (S n).bg ++ (S n).bg ∧ (runT n S (2 * n + 2)).en = (S n).en ++ (S n).en := by
  unfold runT
  rw [if_neg (by omega), if_neg (by omega), show 2 * n + 2 - (n + 2) = n by omega]
  exact ⟨rfl, rfl⟩
theorem tew_cb2 {x : Int} (hx : x.natAbs ≤ 16) : Fl .f32 (ew x) ∧ InR (Num.fv .f32 (ew x)) 2 := by
  have g := (ew_ok hx).2
  refine ⟨g.fin, ?_⟩
  rw [g.val]
  have hp : ((2 ^ 3 : Nat) : Rat) = 8 := rfl
  rw [hp]
  have a : (-16 : Rat) ≤ (x : Rat) := by
    have : (((-16 : Int)) : Rat) ≤ (x : Rat) := Rat.intCast_le_intCast.2 (by omega)
    exact this
  have b : (x : Rat) ≤ (16 : Rat) := by
    have : (x : Rat) ≤ (((16 : Int)) : Rat) := Rat.intCast_le_intCast.2 (by omega)
    exact this
  unfold InR
  constructor <;> grind
end Go.Proofs.Ytkldgcgijkfpaaa

/- Walk: a list of small maps is one. Conditions: each is as the reference draws it. -/
import Derived.Test.YtbpgbplepebcjaaMp
namespace Go.Proofs.Ytbpgbplepebcjaa
open Go.RowKit
open Num Quick
attribute [local go_sem] run_store_fl run_store_cx

theorem smCells_get : ∀ (L : List Sm) (i : Nat) (x : Sm), L[i]? = some x → (smCells L)[i * 4]? = some (.complex .f32 x.a x.b) ∧ (smCells L)[i * 4 + 1]? = some (.complex .f32 x.c x.d) ∧ (smCells L)[i * 4 + 2]? = some (.bool x.fl) ∧ (smCells L)[i * 4 + 3]? = some (.float .f32 x.s)
  | [], i, x, h => by simp at h
  | y :: L, 0, x, h => by
    simp at h
    subst h
    exact ⟨rfl, rfl, rfl, rfl⟩
  | y :: L, i + 1, x, h => by
    have h' : L[i]? = some x := by simpa using h
    obtain ⟨a, b, c, d⟩ := smCells_get L i x h'
    have e : smCells (y :: L) = y.cells ++ smCells L := by unfold smCells; simp
    have e2 : ∀ j, (smCells (y :: L))[(i + 1) * 4 + j]? = (smCells L)[i * 4 + j]? := by
      intro j
      rw [e, List.getElem?_append_right (by simp [Sm.cells]; omega)]
      congr 1
      simp [Sm.cells]
      omega
    have e20 := e2 0
    rw [Nat.add_zero, Nat.add_zero] at e20
    exact ⟨e20.trans a, (e2 1).trans b, (e2 2).trans c, (e2 3).trans d⟩
theorem Sm.ok.okSmall {N : Nat} {x : Sm} (h : x.ok N) (hN : 1 ≤ N) : OkSmall x.a x.b x.c x.d x.s := by
  have b1 := h.a.gr.bound (C := 1) (by decide)
  have ha : InR (Num.fv .f32 x.a) (1 / 2) := by
    obtain ⟨m, e, h1, h2⟩ := h.a.gr
    have e2 : ((2 ^ 3 : Nat) : Rat) = 8 := by decide +kernel
    rw [e2] at e
    have h3 : (m : Rat) ≤ ((4 : Int) : Rat) := Rat.intCast_le_intCast.2 h2
    have h4 : ((-4 : Int) : Rat) ≤ (m : Rat) := Rat.intCast_le_intCast.2 h1
    have e4 : ((4 : Int) : Rat) = 4 := rfl
    have e5 : ((-4 : Int) : Rat) = -4 := rfl
    rw [e4] at h3
    rw [e5] at h4
    unfold InR
    constructor <;> grind
  have hb : InR (Num.fv .f32 x.b) (1 / 2) := by
    obtain ⟨m, e, h1, h2⟩ := h.b.gr
    have e2 : ((2 ^ 3 : Nat) : Rat) = 8 := by decide +kernel
    rw [e2] at e
    have h3 : (m : Rat) ≤ ((4 : Int) : Rat) := Rat.intCast_le_intCast.2 h2
    have h4 : ((-4 : Int) : Rat) ≤ (m : Rat) := Rat.intCast_le_intCast.2 h1
    have e4 : ((4 : Int) : Rat) = 4 := rfl
    have e5 : ((-4 : Int) : Rat) = -4 := rfl
    rw [e4] at h3
    rw [e5] at h4
    unfold InR
    constructor <;> grind
  have p1 := prod_in ha ha (by decide +kernel)
  have p2 := prod_in hb hb (by decide +kernel)
  have q : (1 : Rat) / 2 * (1 / 2) = 1 / 4 := by decide +kernel
  rw [q] at p1 p2
  have hNq : (1 : Rat) ≤ (N : Rat) := by
    have := Rat.natCast_le_natCast.2 hN
    exact this
  have hs := h.s1
  have hs0 : 0 ≤ Num.fv .f32 x.s := by
    by_cases c : 0 ≤ Num.fv .f32 x.s
    · exact c
    · exfalso
      have := Rat.mul_nonneg (show 0 ≤ -Num.fv .f32 x.s by grind) (show (0 : Rat) ≤ (N : Rat) by grind)
      grind
  refine ⟨h.a.fin, h.b.fin, h.c.fin, h.d.fin, h.s.fin, ?_, h.c.low (by decide), h.d.low (by decide), hs0, ?_⟩
  · unfold InR at p1 p2; grind
  · have := Rat.mul_le_mul_of_nonneg_left hNq hs0
    grind
theorem kilo : Fl .f32 981668463 ∧ 0 ≤ Num.fv .f32 981668463 := by
  refine ⟨?_, ?_⟩
  · show (981668463 : Nat) % FloatKind.f32.format.signWeight < FloatKind.f32.format.infRung
    decide +kernel
  · unfold Num.fv val rv p2
    decide +kernel
set_option maxRecDepth 100000 in
set_option maxHeartbeats 4000000 in
theorem areSmalls_ok (L : List Sm) (N : Nat) (A : Option Addr) (c : Nat) (w : World) (hL : L.length = N) (hN : N = 1 ∨ N = 2 ∨ N = 4) (hok : ∀ x ∈ L, x.ok N) (hR : Rd w w.heap.size 4 A N (smCells L)) :
    Calls Try.prog 14 #[.slice A N c] w fun e w' => e = .returned (.bool true) ∧ Below w.heap.size w w' := by
  have hN4 : N ≤ 4 := by omega
  have hN1 : 1 ≤ N := by omega
  obtain ⟨b, off, rfl, hbb, hcell⟩ := hR.2 (by omega)
  have HC := Lib.hid hcell
  have HOK := Lib.hid hok
  have HL := Lib.hid hL
  have HN := Lib.hid hN
  clear hcell hok hL hN hR
  go_enter Try.func14, Try.ntmps14
  go_wp2
  go_loopw [3, 16] (fun ss si wr => ∃ (i sm : Nat), ss = .float .f32 sm ∧ si = .int .i64 (i : Int) ∧ i ≤ N ∧ Hid (GF 2 (4 * i) sm) ∧ Hid (Num.fv .f32 sm * (N : Rat) = (i : Rat)) ∧ Hid (Below w.heap.size w wr)) (fun _ si _ => N - (intOf si).toNat)
  case atStart =>
    refine ⟨0, 0, rfl, rfl, by omega, ⟨c0.1, by decide, ?_⟩, ?_, Below.refl _ _⟩
    · rw [c0.2]; exact ⟨0, by decide +kernel, by decide, by decide⟩
    · unfold Hid; rw [c0.2]; exact Rat.zero_mul _
  case round =>
    obtain ⟨i, sm, rfl, rfl, hi, HG, HV, HB⟩ := hrel
    by_cases hk : i < N
    · obtain ⟨x, hx⟩ : ∃ x, L[i]? = some x := ⟨_, List.getElem?_eq_getElem (by have := HL.out; omega)⟩
      obtain ⟨g0, g1, g2, g3⟩ := smCells_get L i x hx
      have d0 : wr.cell? ⟨b, off + i * 4, none⟩ = some (.complex .f32 x.a x.b) := (HB.out.cell hbb).trans (HC.out _ _ g0)
      have d1 : wr.cell? ⟨b, off + i * 4 + 1, none⟩ = some (.complex .f32 x.c x.d) := (HB.out.cell hbb).trans (HC.out _ _ g1)
      have d2 : wr.cell? ⟨b, off + i * 4 + 2, none⟩ = some (.bool x.fl) := (HB.out.cell hbb).trans (HC.out _ _ g2)
      have d3 : wr.cell? ⟨b, off + i * 4 + 3, none⟩ = some (.float .f32 x.s) := (HB.out.cell hbb).trans (HC.out _ _ g3)
      have hxo : x.ok N := HOK.out x (List.mem_of_getElem? hx)
      have V := Lib.hid (fun w => valid_num x.fl (hxo.okSmall hN1) w)
      have XO := Lib.hid hxo
      obtain ⟨v0, ev⟩ : ∃ v0, v0 = wr.alloc (.cells (smallC x.a x.b x.c x.d x.fl x.s) 29) := ⟨_, rfl⟩
      have B0 : Hid (Blk v0 wr.heap.size 29 (smallC x.a x.b x.c x.d x.fl x.s)) := by rw [ev]; exact Blk.new _ _ _
      have G0 : Hid (Below w.heap.size w v0) := by rw [ev]; exact HB.out.alloc HB.out.size _
      have EV := Lib.hid ev
      unfold smallC at EV
      unfold smallV at V
      clear g0 g1 g2 g3 hx hxo ev
      go_wp2_with fail
      rw [← EV.out]
      refine (V.out _).mono ?_
      rintro e w1 ⟨rfl, hb1⟩
      have B1 := Lib.hid (B0.out.below hb1 B0.out.lt)
      have G1 := Lib.hid (G0.out.trans (hb1.mono G0.out.size))
      have f3 : w1.cell? ⟨wr.heap.size, 3, none⟩ = some (.float .f32 x.s) := B1.out.cell 3
      -- the sum goes on
      have hsum := HG.out.gr.add (XO.out.s.gr)
      have hi4 : 4 * (i : Int) + 4 ≤ 16 := by omega
      have tt : InR (Num.fv .f32 sm + Num.fv .f32 x.s) top := in_top (in_lowM (hsum.bound (C := 1000) (by omega)))
      obtain ⟨sm', e1, e2⟩ := fadd HG.out.fin XO.out.s.fin tt.1 tt.2
      have hg' := FR.gf e2 hsum (by omega) (by omega)
      have q1 := r32 e1
      have HG' : Hid (GF 2 (4 * ((i + 1 : Nat) : Int)) sm') := hg'.1.mono (by omega)
      have HV' : Hid (Num.fv .f32 sm' * (N : Rat) = ((i + 1 : Nat) : Rat)) := by
        unfold Hid
        have h1 := HV.out
        have h2 := XO.out.s1
        have h3 : ((i + 1 : Nat) : Rat) = (i : Rat) + 1 := by rw [Rat.natCast_add]; rfl
        rw [hg'.2, h3]
        grind
      clear hb1 B0 G0 EV e1 e2 hg' hsum tt HG HV V XO d0 d1 d2 d3
      go_wp2
      go_roundw
      case rel => exact ⟨i + 1, sm', rfl, by go_num, by omega, HG', HV', G1.out⟩
      case measure => simp [intOf]; omega
    · obtain rfl : i = N := by omega
      have hv1 : Num.fv .f32 sm = 1 := by
        have h1 := HV.out
        have h2 : (i : Rat) ≠ 0 := by
          have := Rat.natCast_pos.2 (show 0 < i by omega)
          grind
        have h3 : (Num.fv .f32 sm - 1) * (i : Rat) = 0 := by grind
        rcases Rat.mul_eq_zero.1 h3 with h4 | h4
        · grind
        · exact absurd h4 h2
      have t0 : (0 : Rat) ≤ top := by decide
      have t1 : (-top : Rat) ≤ 0 := by decide +kernel
      obtain ⟨d, e1, e2⟩ := fsub HG.out.fin c1.1 (by rw [hv1, c1.2]; grind) (by rw [hv1, c1.2]; grind)
      have hd : Num.fv .f32 d = 0 := by
        rw [hv1, c1.2] at e2
        have e3 : (1 : Rat) - 1 = 0 := by decide +kernel
        rw [e3] at e2
        exact e2.exact _ (by rw [← c0.2]; exact rep_val _ c0.1)
      obtain ⟨r, r1, r2, r3⟩ := size_num e2.fin
      have hr : Num.fv .f32 r = 0 := by rw [r3, hd]; decide
      have hle := (le_cmp r2 kilo.1 (by rw [hr]; exact kilo.2)).1
      have R1 := Lib.hid r1
      have q1 := r32 e1
      clear e1 e2 hd r1 r2 r3 hr hv1 t0 t1
      go_wp2_with fail
      refine (R1.out _).mono ?_
      rintro e w1 ⟨rfl, hw1⟩
      obtain rfl := hw1.symm
      rw [Bool.or_eq_true] at hle
      rcases hle with hle | hle
      all_goals
        go_wp2
        go_ret
        exact ⟨ret_b (by first | rfl | simp_all), HB.out⟩
end Go.Proofs.Ytbpgbplepebcjaa

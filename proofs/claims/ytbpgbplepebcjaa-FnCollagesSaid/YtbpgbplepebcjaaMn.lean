/- Walk: small maps that the reference draws out of bytes. Conditions: at most 2^20 bytes. -/
import Derived.Test.YtbpgbplepebcjaaMm
import Derived.Test.YtbpgbplepebcjaaIs
namespace Go.Proofs.Ytbpgbplepebcjaa
open Go.RowKit
open Num Quick
attribute [local go_sem] run_store_fl run_store_cx

theorem c8 : Fl .f32 1090519040 ∧ Num.fv .f32 1090519040 = 8 := by
  refine ⟨?_, ?_⟩
  · show (1090519040 : Nat) % FloatKind.f32.format.signWeight < FloatKind.f32.format.infRung
    decide +kernel
  · unfold Num.fv val rv p2
    decide +kernel
theorem c4 : Fl .f32 1082130432 ∧ Num.fv .f32 1082130432 = 4 := by
  refine ⟨?_, ?_⟩
  · show (1082130432 : Nat) % FloatKind.f32.format.signWeight < FloatKind.f32.format.infRung
    decide +kernel
  · unfold Num.fv val rv p2
    decide +kernel
theorem int_in {m : Int} {B : Nat} (h1 : -(B : Int) ≤ m) (h2 : m ≤ B) : InR (m : Rat) (B : Rat) := by
  constructor
  · rw [← Rat.intCast_natCast]; exact Rat.intCast_le_intCast.2 h2
  · rw [← Rat.intCast_natCast, ← Rat.intCast_neg]; exact Rat.intCast_le_intCast.2 h1
theorem eighth (m : Int) (h1 : -8 ≤ m) (h2 : m ≤ 8) : ∃ w, floatBits .quo .f32 (floatOfInt .f32 m) 1090519040 = some w ∧ GF 3 m.natAbs w ∧ Num.fv .f32 w = (m : Rat) / 8 := by
  obtain ⟨i1, i2, i3⟩ := fint .f32 m (by omega)
  have hb := int_in (B := 8) h1 h2
  have t1 : (1 : Rat) ≤ top := by decide
  obtain ⟨hb1, hb2⟩ := hb
  have e8 : ((8 : Nat) : Rat) = 8 := rfl
  rw [e8] at hb1 hb2
  obtain ⟨w, w1, w2⟩ := fdiv i1 c8.1 (by rw [c8.2]; decide) (by rw [i2, c8.2]; grind) (by rw [i2, c8.2]; grind)
  rw [i2, c8.2] at w2
  have hg : Gr 3 m.natAbs ((m : Rat) / 8) := ⟨m, by congr 1, by omega, by omega⟩
  have := FR.gf w2 hg (by omega) (by omega)
  exact ⟨w, w1, this.1, this.2⟩
theorem fourth (m : Int) (h1 : -8 ≤ m) (h2 : m ≤ 8) : ∃ w, floatBits .quo .f32 (floatOfInt .f32 m) 1082130432 = some w ∧ GF 2 m.natAbs w ∧ Num.fv .f32 w = (m : Rat) / 4 := by
  obtain ⟨i1, i2, i3⟩ := fint .f32 m (by omega)
  have hb := int_in (B := 8) h1 h2
  have t1 : (2 : Rat) ≤ top := by decide
  obtain ⟨hb1, hb2⟩ := hb
  have e8 : ((8 : Nat) : Rat) = 8 := rfl
  rw [e8] at hb1 hb2
  obtain ⟨w, w1, w2⟩ := fdiv i1 c4.1 (by rw [c4.2]; decide) (by rw [i2, c4.2]; grind) (by rw [i2, c4.2]; grind)
  rw [i2, c4.2] at w2
  have hg : Gr 2 m.natAbs ((m : Rat) / 4) := ⟨m, by congr 1, by omega, by omega⟩
  have := FR.gf w2 hg (by omega) (by omega)
  exact ⟨w, w1, this.1, this.2⟩
/-- The share of one of 1, 2 or 4. -/
theorem share_of (N : Nat) (h : N = 1 ∨ N = 2 ∨ N = 4) : ∃ w, floatBits .quo .f32 1065353216 (floatOfInt .f32 (N : Int)) = some w ∧ GF 2 4 w ∧ Num.fv .f32 w * (N : Rat) = 1 := by
  obtain ⟨i1, i2, i3⟩ := fint .f32 (N : Int) (by omega)
  rw [Rat.intCast_natCast] at i2
  have t1 : (1 : Rat) ≤ top := by decide
  have hv : ∃ q : Rat, (1 : Rat) / (N : Rat) = q ∧ q * (N : Rat) = 1 ∧ 0 ≤ q ∧ q ≤ 1 ∧ Gr 2 4 q ∧ (N : Rat) ≠ 0 := by
    rcases h with rfl | rfl | rfl
    · exact ⟨1, by decide +kernel, by decide +kernel, by decide, by decide, ⟨4, by decide +kernel, by decide, by decide⟩, by decide⟩
    · exact ⟨1 / 2, by decide +kernel, by decide +kernel, by decide +kernel, by decide +kernel, ⟨2, by decide +kernel, by decide, by decide⟩, by decide⟩
    · exact ⟨1 / 4, by decide +kernel, by decide +kernel, by decide +kernel, by decide +kernel, ⟨1, by decide +kernel, by decide, by decide⟩, by decide⟩
  obtain ⟨q, q1, q2, q3, q4, q5, q6⟩ := hv
  obtain ⟨w, w1, w2⟩ := fdiv c1.1 i1 (by rw [i2]; exact q6) (by rw [c1.2, i2, q1]; grind) (by rw [c1.2, i2, q1]; grind)
  rw [c1.2, i2, q1] at w2
  have := FR.gf w2 q5 (by omega) (by omega)
  exact ⟨w, w1, this.1, by rw [this.2]; exact q2⟩
/-- A small map that is drawn. -/
structure Sm where
  a : Nat
  b : Nat
  c : Nat
  d : Nat
  fl : Bool
  s : Nat
def Sm.cells (x : Sm) : List Value := [.complex .f32 x.a x.b, .complex .f32 x.c x.d, .bool x.fl, .float .f32 x.s]
def smCells (L : List Sm) : List Value := L.flatMap Sm.cells
structure Sm.ok (N : Nat) (x : Sm) : Prop where
  a : GF 3 4 x.a
  b : GF 3 4 x.b
  c : GF 2 4 x.c
  d : GF 2 4 x.d
  s : GF 2 4 x.s
  a1 : 1 / 8 ≤ Num.fv .f32 x.a
  s1 : Num.fv .f32 x.s * (N : Rat) = 1
theorem GF.mono {n : Nat} {B C : Int} {w : Nat} (h : GF n B w) (hBC : B ≤ C) : GF n C w := ⟨h.fin, h.lt, h.gr.mono hBC⟩
set_option maxRecDepth 100000 in
set_option maxHeartbeats 1000000 in
theorem among_any (g n c at_ b : Nat) (A : Option Addr) (bs : List Nat) (w : World) (hat : at_ ≤ 1099511627776) (h : Src w g A n c at_ bs) (hk : Blk w b 2 #[.int .i64 1, .int .i64 2, .int .i64 2, .int .i64 4]) :
    Calls Try.prog 40 #[.pointer (some ⟨g, 0, none⟩), .slice (some ⟨b, 0, none⟩) 4 4] w fun e w' => ∃ N : Nat, e = .returned (.int .i64 (N : Int)) ∧ (N = 1 ∨ N = 2 ∨ N = 4) ∧ Src w' g A n c (at_ + 1) bs ∧ w.grownBy w' (some g) := by
  have PC := Lib.hid (pick_any g n c at_ 4 A bs w hat (by omega) (by omega) h)
  have hne : b ≠ g := by
    obtain ⟨s, _, _, hb⟩ := h.blk
    exact hk.ne_ hb (by decide)
  have HK := Lib.hid hk
  clear hk h
  go_enter Try.func40, Try.ntmps40
  go_wp2_with fail
  refine PC.out.mono ?_
  rintro e w1 ⟨x, rfl, hx, hs, hg⟩
  have K1 := HK.out.grown hg (fun e => by injection e with e; omega)
  obtain ⟨N, hN, hN2⟩ : ∃ N : Nat, (#[Value.int .i64 1, .int .i64 2, .int .i64 2, .int .i64 4])[x]? = some (.int .i64 (N : Int)) ∧ (N = 1 ∨ N = 2 ∨ N = 4) := by
    rcases x with _ | _ | _ | _ | x
    · exact ⟨1, rfl, by omega⟩
    · exact ⟨2, rfl, by omega⟩
    · exact ⟨2, rfl, by omega⟩
    · exact ⟨4, rfl, by omega⟩
    · omega
  have cx : w1.cell? ⟨b, x, none⟩ = some (.int .i64 (N : Int)) := by rw [K1.cell x, hN]
  have HS := Lib.hid hs
  have HG := Lib.hid hg
  have HN2 := Lib.hid hN2
  clear hs hg K1 hN hN2 PC HK
  go_wp2
  go_ret
  exact ⟨N, rfl, HN2.out, HS.out, HG.out⟩
end Go.Proofs.Ytbpgbplepebcjaa

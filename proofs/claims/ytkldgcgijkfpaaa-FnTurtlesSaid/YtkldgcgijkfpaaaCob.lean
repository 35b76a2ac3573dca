/- Walk: a number drawn; a point put between two. Conditions: seeds of 31 bits, numbers of middling size. -/
import Derived.Test.YtkldgcgijkfpaaaCoa
import Derived.Test.YtkldgcgijkfpaaaEb
namespace Go.Proofs.Ytkldgcgijkfpaaa
open Go.RowKit
open Num Quick
attribute [local go_sem] run_store_fl run_store_cx

def nsd (s : Nat) : Nat := (1103515245 * s + 12345) % 2147483648
theorem nsd_le (s : Nat) : nsd s ≤ 2147483647 := by unfold nsd; omega
theorem nsd_cast (s : Nat) : ((1103515245 * (s : Int) + 12345) % 2147483648) = ((nsd s : Nat) : Int) := by unfold nsd; omega
theorem nsd_ne (s : Nat) : nsd s ≠ s := by unfold nsd; omega
theorem ret_int {k : IntKind} {a b : Int} (h : a = b) : Ending.returned (.int k a) = .returned (.int k b) := by rw [h]
set_option maxHeartbeats 400000 in
theorem nextSeed_any (s : Nat) (w : World) (hs : s ≤ 2147483647) : Calls Try.prog 89 #[.int .i64 (s : Int)] w fun e w' => e = .returned (.int .i64 (nsd s : Nat)) ∧ w' = w := by
  have e1 := nsd_cast s
  obtain ⟨x, ex⟩ : ∃ x, nsd s = x := ⟨_, rfl⟩
  rw [ex] at e1 ⊢
  clear ex
  go_enter Try.func89, Try.ntmps89
  go_wp2
  go_ret
  exact ⟨ret_int e1, rfl⟩
theorem within_w (n l h : Int) (w : World) (h1 : l ≤ n) (h2 : n ≤ h) : Calls Try.prog 55 #[.int .i64 n, .int .i64 l, .int .i64 h] w fun e w' => e = .returned (.bool true) ∧ w' = w := by
  have e1 : decide (l ≤ n) = true := by simpa using h1
  have e2 : decide (n ≤ h) = true := by simpa using h2
  go_enter Try.func55, Try.ntmps55
  go_wp2
  go_ret
  exact ⟨rfl, rfl⟩
theorem isSeed_w (s : Nat) (w : World) (h : s ≤ 2147483647) : Calls Try.prog 53 #[.int .i64 (s : Int)] w fun e w' => e = .returned (.bool true) ∧ w' = w := by
  have C1 := Lib.hid (within_w (s : Int) 0 2147483647 w (by omega) (by omega))
  go_enter Try.func53, Try.ntmps53
  go_wp2_with fail
  refine C1.out.mono ?_
  rintro e w1 ⟨rfl, rfl⟩
  go_wp2
  go_ret
  exact ⟨rfl, rfl⟩
def sds (s : Nat) : Nat → Nat
  | 0 => s
  | k + 1 => nsd (sds s k)
theorem sds_le {s : Nat} (h : s ≤ 2147483647) (k : Nat) : sds s k ≤ 2147483647 := by
  cases k with
  | zero => exact h
  | succ k => exact nsd_le _
theorem c16384 : Fl .f32 1182793728 ∧ Num.fv .f32 1182793728 = 16384 := by
  refine ⟨?_, ?_⟩
  · show (1182793728 : Nat) % FloatKind.f32.format.signWeight < FloatKind.f32.format.infRung
    decide +kernel
  · unfold Num.fv val rv p2
    decide +kernel
/-- A number drawn: between -1 and 1. -/
theorem draw_ok (s : Nat) (hs : s ≤ 2147483647) : ∃ d, (∀ w : World, Calls Try.prog 74 #[.int .i64 (s : Int)] w fun e w' => e = .returned (.tuple #[.int .i64 (nsd s : Nat), .float .f32 d]) ∧ w' = w) ∧ Fl .f32 d ∧ InR (Num.fv .f32 d) 1 := by
  have NS := Lib.hid (fun w => nextSeed_any s w hs)
  have hl := nsd_le s
  obtain ⟨x, ex⟩ : ∃ x, nsd s = x := ⟨_, rfl⟩
  rw [ex] at NS hl ⊢
  obtain ⟨q, hq⟩ : ∃ q : Int, (x : Int) / 65536 - 16384 = q := ⟨_, rfl⟩
  have hq1 : -16384 ≤ q ∧ q ≤ 16384 := by omega
  obtain ⟨f1, f2, f3⟩ := fint .f32 q (by omega)
  have c := c16384
  have hb : InR ((q : Rat) / 16384) 1 := by
    have a : (-16384 : Rat) ≤ (q : Rat) := by
      have : (((-16384 : Int)) : Rat) ≤ (q : Rat) := Rat.intCast_le_intCast.2 hq1.1
      exact this
    have b : (q : Rat) ≤ (16384 : Rat) := by
      have : (q : Rat) ≤ (((16384 : Int)) : Rat) := Rat.intCast_le_intCast.2 hq1.2
      exact this
    rw [Rat.div_def]
    have e : (16384 : Rat)⁻¹ = 1 / 16384 := by decide +kernel
    rw [e]
    unfold InR
    constructor <;> grind
  have t1 : (1 : Rat) ≤ top := by decide +kernel
  obtain ⟨T, eT⟩ : ∃ T : Rat, top = T := ⟨_, rfl⟩
  rw [eT] at t1
  obtain ⟨d, d1, d2⟩ := fdiv f1 c.1 (by rw [c.2]; decide) (by rw [eT, f2, c.2]; unfold InR at hb; grind) (by rw [eT, f2, c.2]; unfold InR at hb; grind)
  rw [f2, c.2] at d2
  have e1 : ((1 : Int) : Rat) = 1 := rfl
  have e2 : ((-1 : Int) : Rat) = -1 := rfl
  have h1 := d2.le_int 1 (by decide) (by rw [e1]; exact hb.1)
  have h2 := d2.ge_int (-1) (by decide) (by rw [e2]; exact hb.2)
  rw [e1] at h1
  rw [e2] at h2
  refine ⟨d, fun w => ?_, d2.fin, ⟨h1, h2⟩⟩
  have q1 := rInt32 q
  have q2 := r32 d1
  clear d1 d2 f1 f2 f3 c hb h1 h2 hs ex t1 eT
  go_enter Try.func74, Try.ntmps74
  go_wp2_with fail
  refine (NS.out _).mono ?_
  rintro e w1 ⟨rfl, hw1⟩
  obtain rfl := hw1.symm
  go_wp2
  go_ret2
  exact ⟨rfl, rfl⟩
theorem chalf : Fl .f32 1056964608 ∧ Num.fv .f32 1056964608 = 1 / 2 := by
  refine ⟨?_, ?_⟩
  · show (1056964608 : Nat) % FloatKind.f32.format.signWeight < FloatKind.f32.format.infRung
    decide +kernel
  · unfold Num.fv val rv p2
    decide +kernel
/-- The words of the point that is put between a and b. -/
structure Mid (a b : Nat × Nat) (rough d : Nat) (z : Nat × Nat) where
  by_ : Nat
  w1 : Nat
  w2 : Nat
  s1 : Nat
  h1 : Nat
  t1 : Nat
  s2 : Nat
  h2 : Nat
  t2 : Nat
  eby : floatBits .mul .f32 d rough = some by_
  ew1 : floatBits .sub .f32 b.1 a.1 = some w1
  ew2 : floatBits .sub .f32 b.2 a.2 = some w2
  es1 : floatBits .add .f32 a.1 b.1 = some s1
  eh1 : floatBits .mul .f32 1056964608 s1 = some h1
  et1 : floatBits .mul .f32 by_ w2 = some t1
  ex : floatBits .sub .f32 h1 t1 = some z.1
  es2 : floatBits .add .f32 a.2 b.2 = some s2
  eh2 : floatBits .mul .f32 1056964608 s2 = some h2
  et2 : floatBits .mul .f32 by_ w1 = some t2
  ey : floatBits .add .f32 h2 t2 = some z.2
theorem in_two {x : Rat} {B : Nat} (h : InR x ((2 * B : Nat) : Rat)) : InR (1 / 2 * x) ((B : Nat) : Rat) := by
  have e : ((2 * B : Nat) : Rat) = 2 * (B : Rat) := by rw [Rat.natCast_mul]; rfl
  rw [e] at h
  unfold InR at *
  constructor <;> grind
theorem mid_ex {a b : Nat × Nat} {rough d B : Nat} (ha : Cb ((B : Nat) : Rat) a) (hb : Cb ((B : Nat) : Rat) b) (hB : B ≤ 1000) (hr : Fl .f32 rough) (hr2 : InR (Num.fv .f32 rough) (1 / 2)) (hd : Fl .f32 d) (hd2 : InR (Num.fv .f32 d) 1) :
    ∃ z, Nonempty (Mid a b rough d z) ∧ Cb ((2 * B : Nat) : Rat) z := by
  have e1 : ((1 : Nat) : Rat) = 1 := rfl
  have sw1 := in_sub hb.2.2.1 ha.2.2.1
  have sw2 := in_sub hb.2.2.2 ha.2.2.2
  have ss1 := in_add ha.2.2.1 hb.2.2.1
  have ss2 := in_add ha.2.2.2 hb.2.2.2
  have eB : (B : Rat) + (B : Rat) = ((2 * B : Nat) : Rat) := by rw [nat_add]; congr 1; omega
  rw [eB] at sw1 sw2 ss1 ss2
  have pb := prod_in hd2 hr2 (by decide)
  have t1' : (1 : Rat) ≤ top := by decide +kernel
  have pb' : InR (Num.fv .f32 d * Num.fv .f32 rough) top := in_le pb (by generalize top = T at t1'; grind)
  obtain ⟨by_, eby, rby⟩ := fmul hd hr pb'.1 pb'.2
  have rh := rep_frac .f32 1 1 (by decide) (by decide)
  have rn := rep_frac .f32 (-1) 1 (by decide) (by decide)
  have eh : ((1 : Int) : Rat) / ((2 ^ 1 : Nat) : Rat) = 1 / 2 := by decide +kernel
  have en : ((-1 : Int) : Rat) / ((2 ^ 1 : Nat) : Rat) = -(1 / 2) := by decide +kernel
  rw [eh] at rh
  rw [en] at rn
  have iby : InR (Num.fv .f32 by_) (1 / 2) := ⟨rby.le _ rh (by have := pb.1; grind), rby.ge _ rn (by have := pb.2; grind)⟩
  obtain ⟨w1, ew1, rw1⟩ := fsub hb.1 ha.1 (small_top sw1 (by omega)).1 (small_top sw1 (by omega)).2
  have iw1 := in_rnd rw1 sw1 (by omega)
  obtain ⟨w2, ew2, rw2⟩ := fsub hb.2.1 ha.2.1 (small_top sw2 (by omega)).1 (small_top sw2 (by omega)).2
  have iw2 := in_rnd rw2 sw2 (by omega)
  obtain ⟨s1, es1, rs1⟩ := fadd ha.1 hb.1 (small_top ss1 (by omega)).1 (small_top ss1 (by omega)).2
  have is1 := in_rnd rs1 ss1 (by omega)
  obtain ⟨s2, es2, rs2⟩ := fadd ha.2.1 hb.2.1 (small_top ss2 (by omega)).1 (small_top ss2 (by omega)).2
  have is2 := in_rnd rs2 ss2 (by omega)
  have ch := chalf
  have i1 := in_two is1
  have i2 := in_two is2
  rw [← ch.2] at i1 i2
  obtain ⟨h1, eh1, rh1⟩ := fmul ch.1 rs1.fin (small_top i1 (by omega)).1 (small_top i1 (by omega)).2
  have ih1 := in_rnd rh1 i1 (by omega)
  obtain ⟨h2, eh2, rh2⟩ := fmul ch.1 rs2.fin (small_top i2 (by omega)).1 (small_top i2 (by omega)).2
  have ih2 := in_rnd rh2 i2 (by omega)
  have j1 := prod_in iby iw2 (by decide +kernel)
  have j2 := prod_in iby iw1 (by decide +kernel)
  have e2B : (1 / 2 : Rat) * ((2 * B : Nat) : Rat) = ((B : Nat) : Rat) := by
    have e : ((2 * B : Nat) : Rat) = 2 * (B : Rat) := by rw [Rat.natCast_mul]; rfl
    rw [e]
    grind
  rw [e2B] at j1 j2
  obtain ⟨t1, et1, rt1⟩ := fmul rby.fin rw2.fin (small_top j1 (by omega)).1 (small_top j1 (by omega)).2
  have it1 := in_rnd rt1 j1 (by omega)
  obtain ⟨t2, et2, rt2⟩ := fmul rby.fin rw1.fin (small_top j2 (by omega)).1 (small_top j2 (by omega)).2
  have it2 := in_rnd rt2 j2 (by omega)
  have k1 := in_sub ih1 it1
  have k2 := in_add ih2 it2
  rw [nat_add, show B + B = 2 * B by omega] at k1 k2
  obtain ⟨x, ex, rx⟩ := fsub rh1.fin rt1.fin (small_top k1 (by omega)).1 (small_top k1 (by omega)).2
  obtain ⟨y, ey, ry⟩ := fadd rh2.fin rt2.fin (small_top k2 (by omega)).1 (small_top k2 (by omega)).2
  exact ⟨(x, y), ⟨⟨by_, w1, w2, s1, h1, t1, s2, h2, t2, eby, ew1, ew2, es1, eh1, et1, ex, es2, eh2, et2, ey⟩⟩, rx.fin, ry.fin, in_rnd rx k1 (by omega), in_rnd ry k2 (by omega)⟩
end Go.Proofs.Ytkldgcgijkfpaaa

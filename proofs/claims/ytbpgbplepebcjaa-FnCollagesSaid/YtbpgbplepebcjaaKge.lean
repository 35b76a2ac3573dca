/- Walks: CollageOf, and that a map leads to its image. Conditions: maps and points as the reference draws them. -/
import Derived.Test.YtbpgbplepebcjaaKgd
namespace Go.Proofs.Ytbpgbplepebcjaa
open Go.RowKit
open Num Quick
attribute [local go_sem] run_store_fl run_store_cx

set_option maxRecDepth 100000 in
theorem collage_w (L : List Sm) (N : Nat) (P : List (Nat × Nat)) (A AP : Option Addr) (n c cP : Nat) (w : World) (hL : L.length = N) (hN : N = 1 ∨ N = 2 ∨ N = 4) (hok : ∀ x ∈ L, x.ok N) (hR : Rd w w.heap.size 4 A N (smCells L))
    (hl : P.length = n) (hn : 1 ≤ n) (hn2 : n ≤ 20) (hP : ∀ p ∈ P, PtOk p) (hA : Rd w w.heap.size 1 AP n (P.map cxv)) :
    Calls Try.prog 34 #[.slice A N c, .slice AP n cP] w fun e w' => e = .returned (.tuple #[.float .f32 (farN P (imgs L P)), .bool true]) ∧ Below w.heap.size w w' := by
  have hN4 : N ≤ 4 := by omega
  have hN1 : 1 ≤ N := by omega
  have hNn1 : 1 ≤ N * n := Nat.mul_pos hN1 hn
  have hNn : N * n ≤ 80 := Nat.mul_le_mul hN4 hn2
  have IC := Lib.hid (imagesOf_w L N P A AP n c cP w hL hN hok hR hl hn hn2 hP hA)
  have FC := Lib.hid (fun g c' w' (hb : Below w.heap.size w w') (hR' : Rd w' w'.heap.size 1 (some ⟨g, 0, none⟩) (N * n) ((imgs L P).map cxv)) => farOf_w P (imgs L P) AP (some ⟨g, 0, none⟩) n cP (N * n) c' w' hl hn (by omega) (fun p hp => pt_pl (hP p hp)) ((hA.below hb).more hb.size) (by rw [imgs_length, hL, hl]) hNn1 (by omega) (imgs_pl hok hP) hR')
  clear hL hN hok hR hl hP hA
  generalize N * n = m at *
  generalize farN P (imgs L P) = f at *
  go_enter Try.func34, Try.ntmps34
  go_wp2_with fail
  refine IC.out.mono ?_
  rintro e w1 ⟨g, c', rfl, ho, hb⟩
  have B1 := Lib.hid hb
  have F1 := Lib.hid (FC.out g c' w1 hb (Rd.own ho))
  clear ho hb IC FC
  go_wp2_with fail
  refine F1.out.mono ?_
  rintro e w5 ⟨rfl, hw5⟩
  obtain rfl := hw5.symm
  go_wp2
  go_ret2
  exact ⟨rfl, B1.out⟩
theorem map0_w {N : Nat} {x : Sm} (hN : 1 ≤ N) (hx : x.ok N) {z : Nat × Nat} (hz : PtOk z) (w : World) :
    Calls Try.prog 10 #[smallV x.a x.b x.c x.d x.fl x.s, .complex .f32 z.1 z.2] w fun e w' => e = .returned (.tuple #[.complex .f32 (mpP x z).1 (mpP x z).2, .bool true]) ∧ Below w.heap.size w w' := by
  have M := mpP_spec hx hz
  have p := pt_pl hz
  exact mapSmall_w x.fl (hx.okSmall hN) p.1 p.2.1 p.2.2.1 p.2.2.2 M.im M.g1.fin M.g2.fin w
end Go.Proofs.Ytbpgbplepebcjaa

/- Walks: drawn numbers, whether a side of a cell is full, moves: of the program and of the reference. Conditions: the field's sides are from 1 to 16, the cell is in it, seeds are below 2147483648. -/
import Derived.Test.YtbkacmklgkgamaaSd
import Derived.Test.YtbkacmklgkgamaaVd
import Derived.Test.YtbkacmklgkgamaaIp
import Derived.Test.YtbkacmklgkgamaaPk
namespace Go.Proofs.Ytbkacmklgkgamaa
open Go.RowKit

theorem nxt_cast (s : Nat) : ((1103515245 * (s : Int) + 12345) % 2147483648) = ((nxt s : Nat) : Int) := by unfold nxt; omega
theorem drw_cast (s n : Nat) : ((nxt s : Nat) : Int) / 65536 % (n : Int) = ((drw s n : Nat) : Int) := by unfold drw; simp

theorem ret_int {k : IntKind} {a b : Int} (h : a = b) : Ending.returned (.int k a) = .returned (.int k b) := by rw [h]
theorem ret_two {k : IntKind} {a b c d : Int} (h : a = c) (h' : b = d) : Ending.returned (.tuple #[.int k a, .int k b]) = .returned (.tuple #[.int k c, .int k d]) := by rw [h, h']


set_option maxRecDepth 100000 in
theorem touchFn_any (i N : Nat) (A : Option Addr) (c g B : Nat) (cs : List Bool) (w : World) (hi : i < N) (hN : N ≤ 256) (hl : cs.length = N) (h2 : w.cell? ⟨g, 2, none⟩ = some (.slice A N c)) (hA : Rd w B 1 A N (cs.map bv)) :
    Calls Try.prog 56 #[.int .i64 (i : Int), .pointer (some ⟨g, 0, none⟩)] w fun e w' => e = .returned (.bool (cs.getD i false)) ∧ w' = w := by
  obtain ⟨b0, off, rfl, hbb, hc⟩ := hA.2 (by omega)
  have hic : i < cs.length := by omega
  have cC : w.cell? ⟨b0, off + i, none⟩ = some (.bool (cs.getD i false)) := by
    refine hc i _ ?_
    rw [List.getElem?_map, List.getElem?_eq_getElem hic, List.getD_eq_getElem?_getD, List.getElem?_eq_getElem hic]; rfl
  generalize cs.getD i false = x at *
  clear hc hic hl
  go_enter Try.func56, Try.ntmps56
  go_wp2
  go_ret
  exact ⟨rfl, rfl⟩

set_option maxRecDepth 100000 in
theorem containsTouch_any (A : Option Addr) (n c B : Nat) (xs : List Int) (p1 : Addr) (p : Int → Bool) (w : World) (hn : n ≤ maxLen) (hB : B ≤ w.heap.size) (hA : Rd w B 1 A n (xs.map iv))
    (hp : ∀ m x, x ∈ xs → Calls Try.prog 56 #[.int .i64 x, .pointer (some p1)] (w.drewN m) fun e w' => e = .returned (.bool (p x)) ∧ ∃ m', w' = w.drewN m') :
    Calls Try.prog 54 #[.slice A n c, .func (.func 56) #[] #[.pointer (some p1)]] w fun e w' => e = .returned (.bool (xs.any p)) ∧ ∃ m', w' = w.drewN m' := by
  have IC := Lib.hid (indexFuncTouch_any A n c B xs p1 p w hn hB hA hp)
  clear hA hp
  go_enter Try.func54, Try.ntmps54
  go_wp2_with fail
  refine IC.out.mono ?_
  rintro e w1 ⟨⟨m, hm⟩, ⟨k, x, hk, he, hx, hpx, hq⟩ | ⟨he, hq⟩⟩
  · subst he
    have HX : Hid (xs.any p = true) := List.any_eq_true.2 ⟨x, List.mem_of_getElem? hx, hpx⟩
    have HM := Lib.hid hm
    clear hm hx hq hpx IC
    go_wp2
    go_ret
    exact ⟨ret_bool (by rw [HX.out]), m, HM.out⟩
  · subst he
    have HX : Hid (xs.any p = false) := by
      unfold Hid
      rw [List.any_eq_false]
      intro y hy
      rw [hq y hy]; simp
    have HM := Lib.hid hm
    clear hm hq IC
    go_wp2
    go_ret
    exact ⟨ret_bool (by rw [HX.out]), m, HM.out⟩

set_option maxRecDepth 100000 in
set_option maxHeartbeats 400000 in
theorem touches_any (W H N i : Nat) (A : Option Addr) (c : Nat) (cs : List Bool) (w : World) (hW : 1 ≤ W) (hW' : W ≤ 16) (hH : 1 ≤ H) (hH' : H ≤ 16) (hl : cs.length = N) (hP : W * H = N) (hi : i < N)
    (hA : Rd w w.heap.size 1 A N (cs.map bv)) :
    Calls Try.prog 40 #[.agg #[.int .i64 W, .int .i64 H, .slice A N c], .int .i64 (i : Int)] w fun e w' => e = .returned (.bool (touch cs (nbs W H i))) ∧ Below w.heap.size w w' := by
  have hN256 : N ≤ 256 := by have := Nat.mul_le_mul hW' hH'; omega
  have hb0 : Below w.heap.size w (w.alloc (.cells #[.int .i64 W, .int .i64 H, .slice A N c] 31)) := (Below.refl _ _).alloc (Nat.le_refl _) _
  have hbk : Hid (Blk (w.alloc (.cells #[.int .i64 W, .int .i64 H, .slice A N c] 31)) w.heap.size 31 #[.int .i64 W, .int .i64 H, .slice A N c]) := Blk.new _ _ _
  have H0 := Lib.hid hb0
  have HL := Lib.hid hl
  have HP := Lib.hid hP
  clear hb0 hl hP
  go_enter Try.func40, Try.ntmps40
  go_wp2_with fail
  refine (sides_any W H i _ _ rfl hW hW' hH hH' (by rw [HP.out]; exact hi)).mono ?_
  rintro e w1 ⟨An, nn, cn, rfl, hn, hb1⟩
  have hbsN : ∀ x ∈ nbs W H i, x < N := fun x hx => by
    have := nbs_lt (W := W) (H := H) (i := i) (b := x) (by rw [HP.out]; exact hi) hx
    rwa [HP.out] at this
  have hnn : (nbs W H i).length = nn := by have := hn.1; simp at this; omega
  have hnn4 : nn ≤ 4 := by rw [← hnn]; unfold nbs nb1 nb2 nb3 nb4; simp only [List.length_append]; repeat' split <;> simp
  have hX : ((nbs W H i).map fun (n : Nat) => (n : Int)).map iv = (nbs W H i).map nv := by rw [List.map_map]; rfl
  have hb1' := H0.out.trans (hb1.mono (by simp))
  have hk1 := hbk.out.below hb1 hbk.out.lt
  have IC := Lib.hid (containsTouch_any An nn cn w1.heap.size ((nbs W H i).map fun (n : Nat) => (n : Int)) ⟨w.heap.size, 0, none⟩ (fun x => cs.getD x.toNat false) w1 (by unfold maxLen; omega) (Nat.le_refl _) (by rw [hX]; exact Rd.own hn) (fun m x hx => by
    simp only [List.mem_map] at hx
    obtain ⟨x', hx', rfl⟩ := hx
    exact (touchFn_any x' N A c w.heap.size w.heap.size cs (w1.drewN m) (hbsN x' hx') hN256 HL.out (hk1.cell 2) (hA.below (below_drewN hb1' m))).mono fun e w' h => ⟨by rw [h.1, Int.toNat_natCast], m, h.2⟩))
  have HB := Lib.hid hb1'
  have TE : Hid (((nbs W H i).map fun (n : Nat) => (n : Int)).any (fun x => cs.getD x.toNat false) = touch cs (nbs W H i)) := by
    unfold Hid touch
    rw [List.any_map]
    congr 1
  clear hn hb1 hb1' hk1 hbsN hX hnn
  go_wp2_with fail
  refine IC.out.mono ?_
  rintro e w2 ⟨rfl, m, h2⟩
  have HB2 : Hid (Below w.heap.size w w2) := h2 ▸ below_drewN HB.out m
  clear h2
  rw [TE.out]
  go_wp2
  go_ret
  exact ⟨rfl, HB2.out⟩

end Go.Proofs.Ytbkacmklgkgamaa

/- Walk: the law on LoadShape. Condition: the text is shorter than 2^63. -/
import Derived.Test.YtlklpfjcnbkhlaaLw
namespace Go.Proofs.Ytlklpfjcnbkhlaa
open Go.RowKit

theorem lod_exists (s : List Nat) : ∃ r, Lod s r := by
  by_cases h : ∃ x : Rdd, x.ok ∧ x.whole = s
  · obtain ⟨x, h1, h2⟩ := h
    exact ⟨some x, h1, h2⟩
  · exact ⟨none, fun x h1 h2 => h ⟨x, h1, h2⟩⟩
def ldC : Option Rdd → Rdd
  | some x => x
  | none => ⟨⟨#[]⟩, 0, 0, []⟩
/-- A loading's outcome, by parts. -/
def LdOut (nm : ByteArray) (W H : Nat) (cs : List Bool) (ok : Bool) (w : World) (e : Ending) (w' : World) : Prop :=
  ∃ A c, e = .returned (.tuple #[.agg #[.string nm, .int .i64 (W : Int), .int .i64 (H : Int), .slice A cs.length c], .bool ok]) ∧ w'.ownsRow w.heap.size 4 1 (.slice A cs.length c) cs.length (cs.map bv) ∧ Below w.heap.size w w'
theorem ld_unif {s : ByteArray} {w w' : World} {e : Ending} (h : LoadOut s w e w') {r0 : Option Rdd} (hr0 : Lod (nums s) r0) : LdOut (ldC r0).nm (ldC r0).W (ldC r0).H (ldC r0).cs r0.isSome w e w' := by
  obtain ⟨r, hr, hb, hcase⟩ := h
  obtain rfl := lod_uniq hr hr0
  rcases hcase with ⟨rfl, rfl⟩ | ⟨x, A, c, rfl, rfl, ho⟩
  · exact ⟨none, 0, rfl, World.ownsRow_nil _ _ _ _, hb⟩
  · exact ⟨A, c, rfl, ho, hb⟩
theorem ldC_len {s : List Nat} {r : Option Rdd} (h : Lod s r) : (ldC r).cs.length ≤ 256 := by
  cases r with
  | none => simp [ldC]
  | some x => exact (okC_parts h.1).2.2.2

set_option maxRecDepth 100000 in
set_option maxHeartbeats 8000000 in
theorem lawLd_any (s : ByteArray) (w : World) (hs : s.size ≤ maxLen) : Calls Try.prog 4 #[.string s] w fun e w' => e = .returned (.bool true) ∧ Below w.heap.size w w' := by
  have hs' := hs
  unfold maxLen at hs'
  by_cases hbig : 1048576 < s.size
  · go_enter Try.func4, Try.ntmps4
    go_wp2
    go_ret
    exact ⟨rfl, Below.refl _ _⟩
  obtain ⟨r0, hr0⟩ := lod_exists (nums s)
  have SC := Lib.hid (fun w => (specLoadShape_any s w hs).mono fun e w' h => ld_unif h hr0)
  have IC := Lib.hid (fun w => (implLoadShape_any s w hs).mono fun e w' h => ld_unif h hr0)
  have hlen := ldC_len hr0
  generalize (ldC r0).nm = nm at *
  generalize (ldC r0).W = W at *
  generalize (ldC r0).H = H at *
  generalize (ldC r0).cs = cs at *
  generalize r0.isSome = ok at *
  clear hr0
  obtain ⟨n, en⟩ : ∃ n, cs.length = n := ⟨_, rfl⟩
  have hM : n ≤ maxLen := by unfold maxLen; omega
  unfold LdOut at *
  rw [en] at SC IC hlen
  clear en
  go_enter Try.func4, Try.ntmps4
  go_wp2_with fail
  refine (SC.out w).mono ?_
  rintro e w1 ⟨A1, c1, rfl, ho, hb⟩
  have z1 := hb.size
  have V1 := Lib.hid hb
  have O1 := Lib.hid ho
  clear ho hb
  go_wp2_with (first
    | (refine wpList_store_blk rfl _ _ _ rfl w1.heap.size 0 rfl _ rfl [.string nm, .int .i64 (W : Int), .int .i64 (H : Int), .slice A1 n c1] rfl 34 #[.string ⟨#[]⟩, .int .i64 0, .int .i64 0, .slice none 0 0] #[.string nm, .int .i64 (W : Int), .int .i64 (H : Int), .slice A1 n c1] (Blk.new _ _ _) (by kernel_rfl) (by simp) (by simp [Value.oneCell']) rfl ?_; intro w2 k2 g2)
    | fail)
  have z2 := g2.size
  simp only [World.size_alloc] at z2
  have V2 := Lib.hid (below_boxed V1.out (by omega) g2)
  have O2 := Lib.hid (own_boxed O1.out g2)
  have K2 := Lib.hid k2
  clear g2 k2 V1 O1
  refine (IC.out w2).mono ?_
  rintro e w3 ⟨A3, c3, rfl, ho, hb⟩
  have z3 := hb.size
  have V3 := Lib.hid (V2.out.trans (hb.mono (by omega)))
  have D3 := Lib.hid (Dis.of_lt ho (Old.own O2.out))
  have O3 := Lib.hid (own_below O2.out hb)
  have K3 := Lib.hid (K2.out.below hb K2.out.lt)
  have P3 := Lib.hid ho
  clear ho hb V2 O2 K2
  go_wp2_with (first
    | (refine wpList_store_blk rfl _ _ _ rfl w3.heap.size 0 rfl _ rfl [.string nm, .int .i64 (W : Int), .int .i64 (H : Int), .slice A3 n c3] rfl 34 #[.string ⟨#[]⟩, .int .i64 0, .int .i64 0, .slice none 0 0] #[.string nm, .int .i64 (W : Int), .int .i64 (H : Int), .slice A3 n c3] (Blk.new _ _ _) (by kernel_rfl) (by simp) (by simp [Value.oneCell']) rfl ?_; intro w4 k4 g4)
    | (refine wpList_load_blk rfl _ _ rfl w3.heap.size 0 rfl 34 _ k4 [.string nm, .int .i64 (W : Int), .int .i64 (H : Int), .slice A3 n c3] rfl _ Try.underlying34 rfl (by kernel_rfl) ?_)
    | (refine wpList_load_blk rfl _ _ rfl w1.heap.size 0 rfl 34 _ (blk_boxed K3.out g4) [.string nm, .int .i64 (W : Int), .int .i64 (H : Int), .slice A1 n c1] rfl _ Try.underlying34 rfl (by kernel_rfl) ?_)
    | fail)
  have z4 := g4.size
  simp only [World.size_alloc] at z4
  have V4 := Lib.hid (below_boxed V3.out (by omega) g4)
  have O4 := Lib.hid (own_boxed O3.out g4)
  have P4 := Lib.hid (own_boxed P3.out g4)
  have K4 := Lib.hid (blk_boxed K3.out g4)
  have X4 := Lib.hid k4
  clear g4 k4 V3 O3 P3 K3
  refine (eqShape_same nm (W : Int) (H : Int) A3 A1 n c3 c1 cs _ hM (Rd.own P4.out) (Rd.own O4.out)).mono ?_
  rintro e w5 ⟨rfl, hb⟩
  have z5 := hb.size
  have V5 := Lib.hid (V4.out.trans (hb.mono (by omega)))
  have O5 := Lib.hid (own_below O4.out hb)
  have P5 := Lib.hid (own_below P4.out hb)
  have K5 := Lib.hid (K4.out.below hb K4.out.lt)
  have X5 := Lib.hid (X4.out.below hb X4.out.lt)
  clear hb V4 O4 P4 K4 X4
  cases ok
  all_goals
    go_wp2_with (first
      | (refine wpList_load_blk rfl _ _ rfl w3.heap.size 0 rfl 34 _ X5.out [.string nm, .int .i64 (W : Int), .int .i64 (H : Int), .slice A3 n c3] rfl _ Try.underlying34 rfl (by kernel_rfl) ?_)
      | fail)
    refine (markShape_any nm (W : Int) (H : Int) A3 n c3 1 _ _ _ (by omega) P5.out).mono ?_
    rintro e w6 ⟨rfl, hm, hg⟩
    have z6 := hg.size
    have V6 := Lib.hid (V5.out.grown hg (by omega) (fun k e => by have := (P5.out.lt k e).1; omega))
    have O6 := Lib.hid (own_kept O5.out hg D3.out.symm)
    have K6 := Lib.hid (K5.out.grown hg (own_blk_ne P5.out K5.out (by decide)))
    have X6 := Lib.hid (X5.out.grown hg (own_blk_ne P5.out X5.out (by decide)))
    have P6 := Lib.hid hm
    clear hm hg V5 O5 K5 X5 P5
    go_wp2_with (first
      | (refine wpList_load_blk rfl _ _ rfl w3.heap.size 0 rfl 34 _ X6.out [.string nm, .int .i64 (W : Int), .int .i64 (H : Int), .slice A3 n c3] rfl _ Try.underlying34 rfl (by kernel_rfl) ?_)
      | fail)
    refine (heldShape_any nm (W : Int) (H : Int) A3 n c3 1 _ (by omega) (Rd.own P6.out)).mono ?_
    rintro e w7 ⟨rfl, hb⟩
    have z7 := hb.size
    have V7 := Lib.hid (V6.out.trans (hb.mono (by omega)))
    have O7 := Lib.hid (own_below O6.out hb)
    have P7 := Lib.hid (own_below P6.out hb)
    have K7 := Lib.hid (K6.out.below hb K6.out.lt)
    have X7 := Lib.hid (X6.out.below hb X6.out.lt)
    clear hb V6 O6 P6 K6 X6
    go_wp2_with fail
    refine (IC.out w7).mono ?_
    rintro e w8 ⟨A8, c8, rfl, ho, hb⟩
    have z8 := hb.size
    have V8 := Lib.hid (V7.out.trans (hb.mono (by omega)))
    have O8 := Lib.hid (own_below O7.out hb)
    have P8 := Lib.hid (own_below P7.out hb)
    have Q8 := Lib.hid ho
    have K8 := Lib.hid (K7.out.below hb K7.out.lt)
    have X8 := Lib.hid (X7.out.below hb X7.out.lt)
    clear ho hb V7 O7 P7 K7 X7
    go_wp2_with (first
      | (refine wpList_store_blk rfl _ _ _ rfl w8.heap.size 0 rfl _ rfl [.string nm, .int .i64 (W : Int), .int .i64 (H : Int), .slice A8 n c8] rfl 34 #[.string ⟨#[]⟩, .int .i64 0, .int .i64 0, .slice none 0 0] #[.string nm, .int .i64 (W : Int), .int .i64 (H : Int), .slice A8 n c8] (Blk.new _ _ _) (by kernel_rfl) (by simp) (by simp [Value.oneCell']) rfl ?_; intro w9 k9 g9)
      | (refine wpList_load_blk rfl _ _ rfl w8.heap.size 0 rfl 34 _ k9 [.string nm, .int .i64 (W : Int), .int .i64 (H : Int), .slice A8 n c8] rfl _ Try.underlying34 rfl (by kernel_rfl) ?_)
      | (refine wpList_load_blk rfl _ _ rfl w1.heap.size 0 rfl 34 _ (blk_boxed K8.out g9) [.string nm, .int .i64 (W : Int), .int .i64 (H : Int), .slice A1 n c1] rfl _ Try.underlying34 rfl (by kernel_rfl) ?_)
      | fail)
    have z9 := g9.size
    simp only [World.size_alloc] at z9
    have V9 := Lib.hid (below_boxed V8.out (by omega) g9)
    have O9 := Lib.hid (own_boxed O8.out g9)
    have P9 := Lib.hid (own_boxed P8.out g9)
    have Q9 := Lib.hid (own_boxed Q8.out g9)
    have X9 := Lib.hid (blk_boxed X8.out g9)
    clear g9 k9 V8 O8 P8 Q8 K8 X8
    refine (eqShape_same nm (W : Int) (H : Int) A8 A1 n c8 c1 cs _ hM (Rd.own Q9.out) (Rd.own O9.out)).mono ?_
    rintro e w10 ⟨rfl, hb⟩
    have z10 := hb.size
    have V10 := Lib.hid (V9.out.trans (hb.mono (by omega)))
    have P10 := Lib.hid (own_below P9.out hb)
    have X10 := Lib.hid (X9.out.below hb X9.out.lt)
    clear hb V9 O9 P9 Q9 X9
    go_wp2_with (first
      | (refine wpList_load_blk rfl _ _ rfl w3.heap.size 0 rfl 34 _ X10.out [.string nm, .int .i64 (W : Int), .int .i64 (H : Int), .slice A3 n c3] rfl _ Try.underlying34 rfl (by kernel_rfl) ?_)
      | fail)
    refine (heldShape_any nm (W : Int) (H : Int) A3 n c3 1 _ (by omega) (Rd.own P10.out)).mono ?_
    rintro e w11 ⟨rfl, hb⟩
    have V11 := Lib.hid (V10.out.trans (hb.mono (by omega)))
    clear hb V10 P10 X10
    go_wp2
    go_ret
    exact ⟨rfl, V11.out⟩
end Go.Proofs.Ytlklpfjcnbkhlaa

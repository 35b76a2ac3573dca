/- Walks: numbers that the reference draws out of bytes. Conditions: at most 2^20 bytes. -/
import Derived.Test.YtkldgcgijkfpaaaRows
import Derived.Test.YtkldgcgijkfpaaaBlk
import Derived.Test.YtkldgcgijkfpaaaU8
import Derived.Deep.QuietTactic
import Derived.BigQuiet
import Derived.WalkSpells
import Derived.Laws.Bits64b
import Derived.Handy
namespace Go.Proofs.Ytkldgcgijkfpaaa
open Go.RowKit

/-- A source of drawn numbers: its block; the bytes it reads lie ahead of it. -/
structure Src (w : World) (g : Nat) (A : Option Addr) (n c at_ : Nat) (bs : List Nat) : Prop where
  blk : ∃ s : Int, 0 ≤ s ∧ s < 18446744073709551616 ∧ Blk w g 86 #[.slice A n c, .int .i64 (at_ : Int), .int .u64 s]
  rd : Rd w g 1 A n (bs.map u8v)
  lt : ∀ x ∈ bs, x < 256
  len : n ≤ 1048576
  cap : n ≤ c
theorem Src.size {w : World} {g n c at_ : Nat} {A : Option Addr} {bs : List Nat} (h : Src w g A n c at_ bs) : g < w.heap.size := by
  obtain ⟨s, _, _, hb⟩ := h.blk
  exact hb.lt
theorem Rd.grown {w w' : World} {B size n g : Nat} {A : Option Addr} {xs : List Value} (h : Rd w B size A n xs) (hg : w.grownBy w' (some g)) (hB : B ≤ g) (hl : B ≤ w.heap.size) : Rd w' B size A n xs :=
  h.below ⟨hg.os, hg.tape, hg.output, hg.size, fun k hk => hg.block k (by omega) (fun e => by injection e with e; omega)⟩
theorem Src.grown {w w' : World} {g n c at_ k : Nat} {A : Option Addr} {bs : List Nat} (h : Src w g A n c at_ bs) (hg : w.grownBy w' (some k)) (hk : g < k) : Src w' g A n c at_ bs := by
  obtain ⟨s, h1, h2, hb⟩ := h.blk
  exact ⟨⟨s, h1, h2, hb.grown hg (fun e => by injection e with e; omega)⟩, h.rd.grown hg (by omega) (by have := h.size; omega), h.lt, h.len, h.cap⟩
theorem Src.grown' {w w' : World} {g n c at_ : Nat} {row : Option Nat} {A : Option Addr} {bs : List Nat} (h : Src w g A n c at_ bs) (hg : w.grownBy w' row) (hk : ∀ k, row = some k → g < k) : Src w' g A n c at_ bs := by
  obtain ⟨s, h1, h2, hb⟩ := h.blk
  exact ⟨⟨s, h1, h2, hb.grown hg (fun e => by have := hk _ e.symm; omega)⟩, h.rd.below ⟨hg.os, hg.tape, hg.output, hg.size, fun k hk' => hg.block k (by have := hb.lt; omega) (fun e => by have := hk _ e.symm; omega)⟩, h.lt, h.len, h.cap⟩
theorem Src.below {w w' : World} {g n c at_ : Nat} {A : Option Addr} {bs : List Nat} (h : Src w g A n c at_ bs) (hb : Below w.heap.size w w') : Src w' g A n c at_ bs := by
  obtain ⟨s, h1, h2, hk⟩ := h.blk
  exact ⟨⟨s, h1, h2, hk.below hb hk.lt⟩, h.rd.below (hb.mono (Nat.le_of_lt hk.lt)), h.lt, h.len, h.cap⟩
theorem Src.alloc {w : World} {g n c at_ : Nat} {A : Option Addr} {bs : List Nat} (h : Src w g A n c at_ bs) (o : Obj) : Src (w.alloc o) g A n c at_ bs := h.below ((Below.refl _ _).alloc (Nat.le_refl _) o)
theorem u64_rng (n : Int) : 0 ≤ IntKind.u64.wrap n ∧ IntKind.u64.wrap n < 18446744073709551616 := by
  simp [IntKind.wrap, IntKind.bits, IntKind.signed]
  omega
theorem seed_bits {s : Int} (h0 : 0 ≤ s) (h1 : s < 18446744073709551616) : ∃ x : Nat, x < 256 ∧ wrap64 (bits .and .u64 (s / 1099511627776) 255) = (x : Int) := by
  obtain ⟨k, rfl⟩ : ∃ k : Nat, s = (k : Int) := ⟨s.toNat, by omega⟩
  have hk : k / 1099511627776 < 18446744073709551616 := by omega
  have h := bits_and_u64_nat (k / 1099511627776) 255 hk (by decide)
  have e : ((k : Int) / 1099511627776) = ((k / 1099511627776 : Nat) : Int) := by omega
  have hle : k / 1099511627776 &&& 255 ≤ 255 := Nat.and_le_right
  rw [e]
  refine ⟨k / 1099511627776 &&& 255, by omega, ?_⟩
  rw [show ((255 : Int)) = ((255 : Nat) : Int) from rfl, h]
  generalize k / 1099511627776 &&& 255 = x at hle
  exact IntWalk.wrap64_in (x : Int) (by omega)
set_option maxRecDepth 100000 in
set_option maxHeartbeats 2000000 in
theorem next_any (g n c at_ : Nat) (A : Option Addr) (bs : List Nat) (w : World) (hat : at_ ≤ 1099511627776) (h : Src w g A n c at_ bs) :
    Calls Try.prog 62 #[.pointer (some ⟨g, 0, none⟩)] w fun e w' => ∃ x : Nat, e = .returned (.int .i64 (x : Int)) ∧ x < 256 ∧ Src w' g A n c (at_ + 1) bs ∧ w.grownBy w' (some g) := by
  obtain ⟨⟨s, hs0, hs1, hbk⟩, hrd, hlt, hlen, hcap⟩ := h
  have hbl : bs.length = n := by have := hrd.len; simpa using this
  have c0 : w.cell? ⟨g, 0, none⟩ = some (.slice A n c) := hbk.cell 0
  have c1 : w.cell? ⟨g, 1, none⟩ = some (.int .i64 (at_ : Int)) := hbk.cell 1
  have c2 : w.cell? ⟨g, 2, none⟩ = some (.int .u64 s) := hbk.cell 2
  have B0 := Lib.hid hbk
  have R0 := Lib.hid hrd
  have HLT := Lib.hid hlt
  have HBL := Lib.hid hbl
  have hgl : g ≤ w.heap.size := Nat.le_of_lt hbk.lt
  clear hbk hrd hlt hbl
  by_cases hin : at_ < n
  · obtain ⟨b, off, rfl, hbb, hc⟩ := R0.out.2 (by omega)
    obtain ⟨x, hx⟩ : ∃ x, bs[at_]? = some x := ⟨_, List.getElem?_eq_getElem (by rw [HBL.out]; exact hin)⟩
    have hxl := HLT.out x (List.mem_of_getElem? hx)
    have e0 : w.cell? ⟨b, off + at_, none⟩ = some (.int .u8 (x : Int)) := hc _ _ (by rw [List.getElem?_map, hx]; rfl)
    have hai : (at_ : Int) < (n : Int) := by omega
    have hci : (n : Int) ≤ (c : Int) := by omega
    clear hc hx
    go_enter Try.func62, Try.ntmps62
    go_wp2
    go_quiet (fail)
    have B1 : Hid (Blk (World.drewN w nq) g 86 #[.slice (some ⟨b, off, none⟩) n c, .int .i64 (at_ : Int), .int .u64 s]) := B0.out.drewN nq
    have R1 : Hid (Rd (World.drewN w nq) g 1 (some ⟨b, off, none⟩) n (bs.map u8v)) := R0.out
    have G1 : Hid (w.grownBy (World.drewN w nq) (some g)) := ⟨rfl, rfl, rfl, Nat.le_refl _, fun _ _ _ => rfl⟩
    have x0 : (World.drewN w nq).cell? ⟨g, 0, none⟩ = some (.slice (some ⟨b, off, none⟩) n c) := c0
    have x1 : (World.drewN w nq).cell? ⟨g, 1, none⟩ = some (.int .i64 (at_ : Int)) := c1
    have x2 : (World.drewN w nq).cell? ⟨g, 2, none⟩ = some (.int .u64 s) := c2
    have x3 : (World.drewN w nq).cell? ⟨b, off + at_, none⟩ = some (.int .u8 (x : Int)) := e0
    clear c0 c1 c2 e0
    generalize World.drewN w nq = w1 at *
    go_wp2
    go_quiet (fail)
    have B2 : Hid (Blk (World.drewN w1 nq) g 86 #[.slice (some ⟨b, off, none⟩) n c, .int .i64 (at_ : Int), .int .u64 s]) := B1.out.drewN nq
    have R2 : Hid (Rd (World.drewN w1 nq) g 1 (some ⟨b, off, none⟩) n (bs.map u8v)) := R1.out
    have G2 : Hid (w.grownBy (World.drewN w1 nq) (some g)) := ⟨G1.out.os, G1.out.tape, G1.out.output, G1.out.size, G1.out.block⟩
    have y1 : (World.drewN w1 nq).cell? ⟨g, 1, none⟩ = some (.int .i64 (at_ : Int)) := x1
    have y2 : (World.drewN w1 nq).cell? ⟨g, 2, none⟩ = some (.int .u64 s) := x2
    clear x0 x1 x2 x3
    generalize World.drewN w1 nq = w2 at *
    have f1 : w2.frozen? ⟨g, 1, none⟩ = false := B2.out.frozen 1
    have f2 : w2.frozen? ⟨g, 2, none⟩ = false := B2.out.frozen 2
    go_wp2
    have hsv := u64_rng (IntKind.u64.wrap (IntKind.u64.wrap (s * 6364136223846793005) + (x : Int)) + 1442695040888963407)
    generalize IntKind.u64.wrap (IntKind.u64.wrap (IntKind.u64.wrap (s * 6364136223846793005) + (x : Int)) + 1442695040888963407) = sv at *
    have B3 : Hid (Blk (World.setCell (World.setCell w2 ⟨g, 1, none⟩ (.int .i64 ((at_ : Int) + 1))) ⟨g, 2, none⟩ (.int .u64 sv)) g 86 #[.slice (some ⟨b, off, none⟩) n c, .int .i64 ((at_ : Int) + 1), .int .u64 sv]) := (B2.out.set_ 1 _).set_ 2 _
    have G3 : Hid (w.grownBy (World.setCell (World.setCell w2 ⟨g, 1, none⟩ (.int .i64 ((at_ : Int) + 1))) ⟨g, 2, none⟩ (.int .u64 sv)) (some g)) := grown_set (grown_set G2.out rfl _) rfl _
    clear y1 y2 f1 f2 B2 R2 G2 B1 R1 G1
    have z0 : (World.setCell (World.setCell w2 ⟨g, 1, none⟩ (.int .i64 ((at_ : Int) + 1))) ⟨g, 2, none⟩ (.int .u64 sv)).cell? ⟨g, 0, none⟩ = some (.slice (some ⟨b, off, none⟩) n c) := B3.out.cell 0
    have z1 : (World.setCell (World.setCell w2 ⟨g, 1, none⟩ (.int .i64 ((at_ : Int) + 1))) ⟨g, 2, none⟩ (.int .u64 sv)).cell? ⟨g, 1, none⟩ = some (.int .i64 ((at_ : Int) + 1)) := B3.out.cell 1
    have z2 : (World.setCell (World.setCell w2 ⟨g, 1, none⟩ (.int .i64 ((at_ : Int) + 1))) ⟨g, 2, none⟩ (.int .u64 sv)).cell? ⟨g, 2, none⟩ = some (.int .u64 sv) := B3.out.cell 2
    generalize (World.setCell (World.setCell w2 ⟨g, 1, none⟩ (.int .i64 ((at_ : Int) + 1))) ⟨g, 2, none⟩ (.int .u64 sv)) = w3 at *
    go_quiet (fail)
    have B4 : Hid (Blk (World.drewN w3 nq) g 86 #[.slice (some ⟨b, off, none⟩) n c, .int .i64 ((at_ : Int) + 1), .int .u64 sv]) := B3.out.drewN nq
    have G4 : Hid (w.grownBy (World.drewN w3 nq) (some g)) := ⟨G3.out.os, G3.out.tape, G3.out.output, G3.out.size, G3.out.block⟩
    have v2 : (World.drewN w3 nq).cell? ⟨g, 2, none⟩ = some (.int .u64 sv) := z2
    clear z0 z1 z2 B3 G3
    generalize World.drewN w3 nq = w4 at *
    go_wp2
    go_ret
    exact ⟨x, rfl, hxl, ⟨⟨sv, hsv.1, hsv.2, by rw [show (((at_ + 1 : Nat)) : Int) = (at_ : Int) + 1 from by simp]; exact B4.out⟩, R0.out.grown G4.out (Nat.le_refl _) hgl, HLT.out, hlen, hcap⟩, G4.out⟩
  · have hai : (n : Int) ≤ (at_ : Int) := by omega
    have hci : (n : Int) ≤ (c : Int) := by omega
    go_enter Try.func62, Try.ntmps62
    go_wp2
    go_quiet (fail)
    have B1 : Hid (Blk (World.drewN w nq) g 86 #[.slice A n c, .int .i64 (at_ : Int), .int .u64 s]) := B0.out.drewN nq
    have R1 : Hid (Rd (World.drewN w nq) g 1 A n (bs.map u8v)) := R0.out
    have G1 : Hid (w.grownBy (World.drewN w nq) (some g)) := ⟨rfl, rfl, rfl, Nat.le_refl _, fun _ _ _ => rfl⟩
    have x0 : (World.drewN w nq).cell? ⟨g, 0, none⟩ = some (.slice A n c) := c0
    have x1 : (World.drewN w nq).cell? ⟨g, 1, none⟩ = some (.int .i64 (at_ : Int)) := c1
    have x2 : (World.drewN w nq).cell? ⟨g, 2, none⟩ = some (.int .u64 s) := c2
    clear c0 c1 c2
    generalize World.drewN w nq = w1 at *
    have B2 := B1
    have R2 := R1
    have G2 := G1
    have y1 := x1
    have y2 := x2
    clear x0 x1 x2
    generalize w1 = w2 at *
    have f1 : w2.frozen? ⟨g, 1, none⟩ = false := B2.out.frozen 1
    have f2 : w2.frozen? ⟨g, 2, none⟩ = false := B2.out.frozen 2
    go_wp2
    have hsv := u64_rng (IntKind.u64.wrap (IntKind.u64.wrap (s * 6364136223846793005)) + 1442695040888963407)
    generalize IntKind.u64.wrap (IntKind.u64.wrap (IntKind.u64.wrap (s * 6364136223846793005)) + 1442695040888963407) = sv at *
    have B3 : Hid (Blk (World.setCell (World.setCell w2 ⟨g, 1, none⟩ (.int .i64 ((at_ : Int) + 1))) ⟨g, 2, none⟩ (.int .u64 sv)) g 86 #[.slice A n c, .int .i64 ((at_ : Int) + 1), .int .u64 sv]) := (B2.out.set_ 1 _).set_ 2 _
    have G3 : Hid (w.grownBy (World.setCell (World.setCell w2 ⟨g, 1, none⟩ (.int .i64 ((at_ : Int) + 1))) ⟨g, 2, none⟩ (.int .u64 sv)) (some g)) := grown_set (grown_set G2.out rfl _) rfl _
    clear y1 y2 f1 f2 B2 R2 G2 B1 R1 G1
    have z0 : (World.setCell (World.setCell w2 ⟨g, 1, none⟩ (.int .i64 ((at_ : Int) + 1))) ⟨g, 2, none⟩ (.int .u64 sv)).cell? ⟨g, 0, none⟩ = some (.slice A n c) := B3.out.cell 0
    have z1 : (World.setCell (World.setCell w2 ⟨g, 1, none⟩ (.int .i64 ((at_ : Int) + 1))) ⟨g, 2, none⟩ (.int .u64 sv)).cell? ⟨g, 1, none⟩ = some (.int .i64 ((at_ : Int) + 1)) := B3.out.cell 1
    have z2 : (World.setCell (World.setCell w2 ⟨g, 1, none⟩ (.int .i64 ((at_ : Int) + 1))) ⟨g, 2, none⟩ (.int .u64 sv)).cell? ⟨g, 2, none⟩ = some (.int .u64 sv) := B3.out.cell 2
    generalize (World.setCell (World.setCell w2 ⟨g, 1, none⟩ (.int .i64 ((at_ : Int) + 1))) ⟨g, 2, none⟩ (.int .u64 sv)) = w3 at *
    go_quiet (fail)
    have B4 : Hid (Blk (World.drewN w3 nq) g 86 #[.slice A n c, .int .i64 ((at_ : Int) + 1), .int .u64 sv]) := B3.out.drewN nq
    have G4 : Hid (w.grownBy (World.drewN w3 nq) (some g)) := ⟨G3.out.os, G3.out.tape, G3.out.output, G3.out.size, G3.out.block⟩
    have v2 : (World.drewN w3 nq).cell? ⟨g, 2, none⟩ = some (.int .u64 sv) := z2
    clear z0 z1 z2 B3 G3
    generalize World.drewN w3 nq = w4 at *
    go_wp2
    obtain ⟨x, hx, hxe⟩ := seed_bits hsv.1 hsv.2
    go_ret
    exact ⟨x, ret_i hxe, hx, ⟨⟨sv, hsv.1, hsv.2, by rw [show (((at_ + 1 : Nat)) : Int) = (at_ : Int) + 1 from by simp]; exact B4.out⟩, R0.out.grown G4.out (Nat.le_refl _) hgl, HLT.out, hlen, hcap⟩, G4.out⟩
set_option maxRecDepth 100000 in
set_option maxHeartbeats 1000000 in
theorem pick_any (g n c at_ k : Nat) (A : Option Addr) (bs : List Nat) (w : World) (hat : at_ ≤ 1099511627776) (hk : 2 ≤ k) (hk2 : k ≤ 200) (h : Src w g A n c at_ bs) :
    Calls Try.prog 29 #[.pointer (some ⟨g, 0, none⟩), .int .i64 (k : Int)] w fun e w' => ∃ x : Nat, e = .returned (.int .i64 (x : Int)) ∧ x < k ∧ Src w' g A n c (at_ + 1) bs ∧ w.grownBy w' (some g) := by
  have NC := Lib.hid (next_any g n c at_ A bs w hat h)
  have hki : decide ((k : Int) ≤ 1) = false := by simp; omega
  have hki2 : decide ((200 : Int) < (k : Int)) = false := by simp; omega
  clear h
  go_enter Try.func29, Try.ntmps29
  go_wp2_with fail
  refine NC.out.mono ?_
  rintro e w1 ⟨x, rfl, hx, hs, hg⟩
  have HS := Lib.hid hs
  have HG := Lib.hid hg
  have hm : (x : Int) % (k : Int) = ((x % k : Nat) : Int) := by simp
  have hmk : x % k < k := Nat.mod_lt _ (by omega)
  obtain ⟨y, ey⟩ : ∃ y, x % k = y := ⟨_, rfl⟩
  rw [ey] at hm hmk
  clear hs hg ey NC
  go_wp2
  go_ret
  exact ⟨y, ret_i hm, hmk, HS.out, HG.out⟩
end Go.Proofs.Ytkldgcgijkfpaaa

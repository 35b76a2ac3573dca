/- Walks: the places of full cells, their mean, roots. Conditions: sides of 1 to 6. -/
import Derived.Test.YtejmpijihmmajaaGmc
namespace Go.Proofs.Ytejmpijihmmajaa
open Go.RowKit
open Num Quick
attribute [local go_sem] run_store_fl run_store_cx

/-- The number of a place's part. -/
def iw (n : Nat) : Nat := floatOfInt .f32 (n : Int)
theorem iw_num {n : Nat} (h : n ≤ 1000) : Fl .f32 (iw n) ∧ Num.fv .f32 (iw n) = ((n : Int) : Rat) := by
  obtain ⟨f1, f2, _⟩ := fint .f32 (n : Int) (by omega)
  exact ⟨f1, f2⟩
def icx (p : Nat × Nat) : Value := .complex .f32 (iw p.1) (iw p.2)
/-- Where a cell lies. -/
def xy (W i : Nat) : Nat × Nat := (i % W, i / W)
def plc (cs : List Bool) (W k : Nat) : List (Nat × Nat) := (fulls cs k).map (xy W)
theorem cxInfo : (Try.prog.info? 30).map (fun i => (i.zero, i.size, i.bytes)) = some (some (.complex .f32 0 0), 1, 8) := by kernel_rfl
theorem plc_lt {cs : List Bool} {W H N : Nat} (hW : 1 ≤ W) (hP : W * H = N) : ∀ p ∈ plc cs W N, p.1 < W ∧ p.2 < H := by
  intro p hp
  simp only [plc, fulls, List.mem_map, List.mem_filter, List.mem_range] at hp
  obtain ⟨i, ⟨hi, _⟩, rfl⟩ := hp
  refine ⟨Nat.mod_lt _ hW, ?_⟩
  show i / W < H
  rw [Nat.div_lt_iff_lt_mul hW, Nat.mul_comm, hP]; exact hi
theorem plc_length (cs : List Bool) (W k : Nat) : (plc cs W k).length = (fulls cs k).length := by simp [plc]
theorem plc_yes {cs : List Bool} {W k : Nat} (h : cs.getD k false = true) : plc cs W (k + 1) = plc cs W k ++ [xy W k] := by
  unfold plc; rw [fulls_succ, if_pos h]; simp
theorem plc_no {cs : List Bool} {W k : Nat} (h : cs.getD k false = false) : plc cs W (k + 1) = plc cs W k := by
  unfold plc; rw [fulls_succ, if_neg (by rw [h]; decide)]; simp
set_option maxRecDepth 100000 in
set_option maxHeartbeats 4000000 in
theorem places_ok (W H N : Nat) (A : Option Addr) (c : Nat) (cs : List Bool) (w : World) (hW : 1 ≤ W) (hW' : W ≤ 16) (hH : 1 ≤ H) (hH' : H ≤ 16) (hl : cs.length = N) (hP : W * H = N)
    (hA : Rd w w.heap.size 1 A N (cs.map bv)) :
    Calls Try.prog 18 #[fieldV W H A N c] w fun e w' => ∃ g c', e = .returned (.slice (some ⟨g, 0, none⟩) (plc cs W N).length c') ∧ w'.ownsRow w.heap.size 30 1 (.slice (some ⟨g, 0, none⟩) (plc cs W N).length c') (plc cs W N).length ((plc cs W N).map icx) ∧ Below w.heap.size w w' := by
  obtain ⟨i0, hi0, hz0, hz1, hz2⟩ := info_parts cxInfo
  have hN : N ≤ 256 := by have := Nat.mul_le_mul hW' hH'; omega
  obtain ⟨v0, ev0⟩ : ∃ v, v = w.alloc (.cells #[.int .i64 (W : Int), .int .i64 (H : Int), .slice A N c] 26) := ⟨_, rfl⟩
  obtain ⟨v, ev⟩ : ∃ v, v = v0.alloc (.cells #[] 30) := ⟨_, rfl⟩
  have hz : v0.heap.size = w.heap.size + 1 := by rw [ev0]; simp
  have K0 : Hid (Blk v w.heap.size 26 #[.int .i64 (W : Int), .int .i64 (H : Int), .slice A N c]) := by rw [ev, ev0]; exact (Blk.new _ _ _).alloc _
  have B0 : Hid (Below w.heap.size w v) := by rw [ev, ev0]; exact ((Below.refl _ _).alloc (Nat.le_refl _) _).alloc (by simp) _
  have M0 : Hid (v.ownsRow (w.heap.size + 1) 30 1 (.slice (some ⟨w.heap.size + 1, 0, none⟩) (plc cs W 0).length 0) (plc cs W 0).length ((plc cs W 0).map icx)) := by
    rw [ev, ← hz]
    exact (Blk.new v0 _ _).own (n := 0) (size := 1) (Nat.le_refl _) rfl (by unfold maxLen; omega)
  have b2 : v.cell? ⟨w.heap.size, 2, none⟩ = some (.slice A N c) := K0.out.cell 2
  have HA := Lib.hid hA
  have HL := Lib.hid hl
  have EV0 := Lib.hid ev0
  have EV := Lib.hid ev
  rw [ev, ev0] at b2
  unfold fieldV
  clear hA hl ev ev0 hz hP
  go_enter Try.func18, Try.ntmps18
  go_wp2
  rw [← EV0.out, ← EV.out]
  clear b2 EV EV0
  go_loopw [3, 10] (fun so si wr => ∃ (k g c' : Nat), k ≤ N ∧ si = .int .i64 (k : Int) ∧ so = .slice (some ⟨g, 0, none⟩) (plc cs W k).length c' ∧ Hid (wr.ownsRow (w.heap.size + 1) 30 1 (.slice (some ⟨g, 0, none⟩) (plc cs W k).length c') (plc cs W k).length ((plc cs W k).map icx)) ∧
    Hid (Blk wr w.heap.size 26 #[.int .i64 (W : Int), .int .i64 (H : Int), .slice A N c]) ∧ Hid (Below w.heap.size w wr)) (fun _ si _ => N - (intOf si).toNat)
  case atStart => exact ⟨0, _, _, Nat.zero_le _, rfl, rfl, M0, K0, B0⟩
  case round =>
    clear M0 K0 B0
    obtain ⟨k, g, c', hk, rfl, rfl, HM, HK, HB⟩ := hrel
    by_cases hlt : k < N
    · obtain ⟨b, off, rfl, hbb, hc⟩ := HA.out.2 (by omega)
      have e0 : wr.cell? ⟨b, off + k, none⟩ = some (.bool (cs.getD k false)) := (HB.out.cell (p := ⟨b, off + k, none⟩) hbb).trans (hc _ _ (bv_at HL.out hlt))
      obtain ⟨x, ex⟩ : ∃ x, cs.getD k false = x := ⟨_, rfl⟩
      rw [ex] at e0
      have EX := Lib.hid ex
      have hkI : (k : Int) < (N : Int) := by omega
      clear hc ex
      cases x
      · have PS := Lib.hid (plc_no (W := W) EX.out)
        go_wp2
        go_roundw
        case rel => exact ⟨k + 1, g, c', by omega, by go_num, by rw [PS.out], by rw [PS.out]; exact HM, HK, HB⟩
        case measure => simp [intOf]; omega
      · have PS := Lib.hid (plc_yes (W := W) EX.out)
        obtain ⟨x, hx⟩ : ∃ x, k % W = x := ⟨_, rfl⟩
        obtain ⟨y, hy⟩ : ∃ y, k / W = y := ⟨_, rfl⟩
        have e1 : Int.tmod (k : Int) (W : Int) = (x : Int) := by rw [← hx]; rfl
        have e2 : Int.tdiv (k : Int) (W : Int) = (y : Int) := by rw [← hy]; rfl
        have hxy : Hid (xy W k = (x, y)) := by unfold Hid xy; rw [hx, hy]
        have hW0 : (W : Int) ≠ 0 := by omega
        have hWn : W ≠ 0 := by omega
        have hyk : y ≤ k := by rw [← hy]; exact Nat.div_le_self _ _
        have wy : IntKind.i64.wrap (y : Int) = (y : Int) := IntWalk.i64_in _ (by omega)
        have QX := rInt32 (x : Int)
        have QY := rInt32 (y : Int)
        obtain ⟨fx, hfx⟩ : ∃ f, floatOfInt .f32 (x : Int) = f := ⟨_, rfl⟩
        obtain ⟨fy, hfy⟩ : ∃ f, floatOfInt .f32 (y : Int) = f := ⟨_, rfl⟩
        rw [hfx] at QX
        rw [hfy] at QY
        have HI : Hid (icx (xy W k) = .complex .f32 fx fy) := by rw [hxy.out]; unfold icx iw; rw [hfx, hfy]; exact Lib.hid rfl
        have hlen : (plc cs W k).length ≤ k := by rw [plc_length]; exact fulls_le cs k
        have hgw : w.heap.size + 1 ≤ g := (HM.out.lt g rfl).1
        have hgz : g < wr.heap.size := (HM.out.lt g rfl).2
        have k0 : wr.cell? ⟨w.heap.size, 0, none⟩ = some (.int .i64 (W : Int)) := HK.out.cell 0
        have K8 := Lib.hid (HK.out.drew.alloc (.cells #[.complex .f32 fx fy] 30))
        have B8 := Lib.hid (HB.out.drew.alloc (by have := HB.out.size; exact this) (.cells #[.complex .f32 fx fy] 30))
        have O8 : Hid ((wr.drew.alloc (.cells #[.complex .f32 fx fy] 30)).ownsRow (w.heap.size + 1) 30 1 (.slice (some ⟨g, 0, none⟩) (plc cs W k).length c') (plc cs W k).length ((plc cs W k).map icx)) := HM.out.drew.alloc _
        have C8 : Hid (∀ j u, ([.complex .f32 fx fy] : List Value)[j]? = some u → (wr.drew.alloc (.cells #[.complex .f32 fx fy] 30)).cell? ((⟨wr.drew.heap.size, 0, none⟩ : Addr).add j) = some u) := World.news_of_block (heap_alloc_new wr.drew (.cells #[.complex .f32 fx fy] 30))
        have k0a : (wr.drew.alloc (.cells #[.complex .f32 fx fy] 30)).cell? ⟨w.heap.size, 0, none⟩ = some (.int .i64 (W : Int)) := K8.out.cell 0
        have hg8 : w.heap.size + 1 ≤ (wr.drew.alloc (.cells #[.complex .f32 fx fy] 30)).heap.size := by simp; have : g < wr.heap.size := hgz; have e : wr.drew.heap.size = wr.heap.size := rfl; omega
        clear hx hy hfx hfy HM HB HK
        obtain ⟨m, hm⟩ : ∃ m, (plc cs W k).length = m := ⟨_, rfl⟩
        rw [hm] at O8 hlen ⊢
        have HMl := Lib.hid hm
        clear hm
        go_wp2
        go_region_law (first
          | (refine step_append_lies _ rfl _ _ _ rfl (w.heap.size + 1) 30 i0 (.complex .f32 0 0) 1 8 Try.underlying49 hi0 hz0 hz1 hz2 rfl (by omega) (.slice (some ⟨g, 0, none⟩) m c') m ((plc cs W k).map icx) (by rfl) O8.out ⟨wr.drew.heap.size, 0, none⟩ 1 1 [.complex .f32 fx fy] (by rfl) (by simp) C8.out (by simp [Value.oneCell']) (by omega) (by unfold maxLen; omega) (by omega) hg8 (wr.drew.heap.size + 1) (by simp) ?_
             intro gg cap w9 ho9 hg9 hd9 hlt9
             have K9 := Lib.hid (K8.out.grown hg9 (own_blk_ne O8.out K8.out (by decide)))
             have k9 := K9.out.cell 0))
        all_goals
          have B9 := Lib.hid (B8.out.grown hg9 (by have := B8.out.size; exact this) (fun k e => by have := (O8.out.lt k e).1; omega))
          have O9 : Hid (w9.ownsRow (w.heap.size + 1) 30 1 (.slice (some ⟨gg, 0, none⟩) (plc cs W (k + 1)).length cap) (plc cs W (k + 1)).length ((plc cs W (k + 1)).map icx)) := by
            rw [PS.out, List.length_append, HMl.out, List.map_append, List.map_singleton, HI.out]; exact Lib.hid ho9
          have LN : Hid ((plc cs W (k + 1)).length = m + 1) := by rw [PS.out, List.length_append, HMl.out]; exact Lib.hid rfl
          clear ho9 hg9 hd9 k9
          go_wp2
          go_roundw
          case rel => exact ⟨k + 1, gg, cap, by omega, by go_num, by rw [LN.out], O9, K9, B9⟩
          case measure => simp [intOf]; omega
    · obtain rfl : k = N := by omega
      go_wp2
      go_ret
      exact ⟨g, c', rfl, own_base HM.out (by omega), HB.out⟩
end Go.Proofs.Ytejmpijihmmajaa

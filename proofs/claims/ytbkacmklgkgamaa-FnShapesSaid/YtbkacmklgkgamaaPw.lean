/- Walks: the runs of cells as bytes, by the program and by the reference. Condition: at most 256 cells. -/
import Derived.Test.YtbkacmklgkgamaaBy
import Derived.Test.YtbkacmklgkgamaaPc
import Derived.Test.YtbkacmklgkgamaaSl
import Derived.Deep.LoopGhost
namespace Go.Proofs.Ytbkacmklgkgamaa
open Go.RowKit

theorem run_eq {b : Bool} : ∀ {l : List Bool} {m : Nat}, (∀ j, j < m → l[j]? = some b) → l[m]? ≠ some b → runOf b l = m := by
  intro l
  induction l with
  | nil =>
    intro m h _
    cases m with
    | zero => rfl
    | succ m => have := h 0 (by omega); simp at this
  | cons c l ih =>
    intro m h h'
    unfold runOf
    cases m with
    | zero =>
      have : c ≠ b := by simpa using h'
      rw [if_neg this]
    | succ m =>
      have h0 := h 0 (by omega)
      simp at h0
      rw [if_pos h0, ih (m := m) (fun j hj => by have := h (j + 1) (by omega); simpa using this) (by simpa using h')]
/-- Packed as far as cell k. -/
def Pkd (cs : List Bool) (k : Nat) (l : List Nat) (full : Bool) : Prop := k ≤ cs.length ∧ ∃ f, left_ (cs.drop k) full ≤ f ∧ pack cs = l ++ packF f (cs.drop k) full
theorem pkd_zero (cs : List Bool) : Pkd cs 0 [] false := ⟨Nat.zero_le _, 2 * cs.length + 1, left_pack cs, by rw [List.nil_append, List.drop_zero]; rfl⟩
theorem pkd_end {cs : List Bool} {l : List Nat} {full : Bool} (h : Pkd cs cs.length l full) : pack cs = l := by
  obtain ⟨_, f, _, h⟩ := h
  rw [h, List.drop_length, packF_nil, List.append_nil]
theorem pkd_step {cs : List Bool} {k m : Nat} {l : List Nat} {full : Bool} (h : Pkd cs k l full) (hk : k < cs.length) (h1 : ∀ j, j < m → cs[k + j]? = some full) (h2 : cs[k + m]? ≠ some full) (hm : k + m ≤ cs.length) :
    Pkd cs (k + m) (l ++ emit m) (!full) ∧ left_ (cs.drop (k + m)) (!full) < left_ (cs.drop k) full := by
  obtain ⟨_, f, hf, h⟩ := h
  have h0 : cs.drop k ≠ [] := by
    intro e
    have : cs.length ≤ k := by simpa using e
    omega
  have hr : runOf full (cs.drop k) = m := run_eq (fun j hj => by rw [List.getElem?_drop]; exact h1 j hj) (by rw [List.getElem?_drop]; exact h2)
  have hst := left_step (full := full) h0
  rw [hr, List.drop_drop] at hst
  have hp : 2 ≤ left_ (cs.drop k) full := by
    have : 1 ≤ (cs.drop k).length := by rw [List.length_drop]; omega
    unfold left_; split <;> omega
  obtain ⟨f', rfl⟩ : ∃ f', f = f' + 1 := ⟨f - 1, by omega⟩
  refine ⟨⟨hm, f', by omega, ?_⟩, by omega⟩
  rw [packF_step h0, hr, List.drop_drop] at h
  rw [h, List.append_assoc]

theorem pkd_len {cs : List Bool} {k : Nat} {l : List Nat} {full : Bool} (h : Pkd cs k l full) : l.length ≤ 4 * cs.length + 2 := by
  obtain ⟨_, f, _, h⟩ := h
  have := packF_len (2 * cs.length + 1) cs false
  have e : pack cs = packF (2 * cs.length + 1) cs false := rfl
  rw [← e, h, List.length_append] at this
  omega

theorem below_drewN'' {B : Nat} {a w : World} (h : Below B a w) (n : Nat) : Below B a (w.drewN n) := ⟨h.os, h.tape, h.output, h.size, h.block⟩
theorem byteInfo : (Try.prog.info? 5).map (fun i => (i.zero, i.size, i.bytes)) = some (some (.int .u8 0), 1, 1) := by kernel_rfl

set_option maxRecDepth 100000 in
set_option maxHeartbeats 4000000 in
theorem pack_any (N : Nat) (A : Option Addr) (c B : Nat) (cs : List Bool) (w : World) (hN : N ≤ 256) (hl : cs.length = N) (hB : B ≤ w.heap.size) (hA : Rd w B 1 A N (cs.map bv)) :
    Calls Try.prog 31 #[.slice A N c] w fun e w' => ∃ g c', e = .returned (.slice (some ⟨g, 0, none⟩) (pack cs).length c') ∧ Bo w' w.heap.size g (pack cs).length c' (pack cs) ∧ Below w.heap.size w w' := by
  have HA := Lib.hid hA
  have HL := Lib.hid hl
  clear hA hl
  go_enter Try.func31, Try.ntmps31
  go_wp2
  go_loopg [3, 4, 5] (2 * N + 2) (fun gk so sf sa wr => ∃ (k g cl : Nat) (l : List Nat) (full : Bool), so = .slice (some ⟨g, 0, none⟩) l.length cl ∧ sf = .bool full ∧ sa = .int .i64 k ∧ k ≤ N ∧
    Hid (Pkd cs k l full) ∧ Hid (left_ (cs.drop k) full ≤ gk) ∧ Bo wr w.heap.size g l.length cl l ∧ Below w.heap.size w wr)
  case atStart => exact ⟨0, _, _, [], false, rfl, rfl, rfl, Nat.zero_le _, pkd_zero cs, by unfold Hid; rw [List.drop_zero]; have := left_pack cs; rw [HL.out] at this; omega, Bo.made w _ (Nat.le_refl _), (Below.refl _ _).alloc (Nat.le_refl _) _⟩
  case round =>
    obtain ⟨k, g, cl, l, full, rfl, rfl, rfl, hk, HP, HG, hbo, hb⟩ := hrel
    obtain ⟨wo, hwo⟩ : ∃ x, x = wr := ⟨_, rfl⟩
    subst hwo
    by_cases hlt : k < N
    · obtain ⟨b, off, rfl, hbb, hc⟩ := HA.out.2 (by omega)
      have HBO := Lib.hid hbo
      have HB := Lib.hid hb
      have HC : Hid (∀ j x, cs[j]? = some x → wo.cell? ⟨b, off + j, none⟩ = some (.bool x)) := fun j x hx => (hb.cell (show (⟨b, off + j, none⟩ : Addr).block < w.heap.size by show b < _; omega)).trans (hc j _ (by rw [List.getElem?_map, hx]; rfl))
      have hk0 : (k : Int) < (N : Int) := by omega
      clear hc hbo hb
      go_wp2
      go_loopw [5, 6] (fun sk sn wr => ∃ (m q : Nat), sk = .int .i64 (((k + m : Nat) : Int)) ∧ sn = .int .i64 m ∧ k + m ≤ N ∧ Hid (∀ j, j < m → cs[k + j]? = some full) ∧ wr = wo.drewN q) (fun sk _ _ => N - (intOf sk).toNat)
      case atStart => exact ⟨0, 0, rfl, rfl, hk, fun j hj => absurd hj (by omega), rfl⟩
      case round =>
        obtain ⟨m, q, rfl, rfl, hm, HM, hw⟩ := hrel
        by_cases hlm : k + m < N
        · obtain ⟨x, hx⟩ : ∃ x, cs[k + m]? = some x := ⟨_, List.getElem?_eq_getElem (by rw [HL.out]; exact hlm)⟩
          have cX : wr.cell? ⟨b, off + (k + m), none⟩ = some (.bool x) := by rw [hw]; exact HC.out _ _ hx
          have HX := Lib.hid hx
          have HW := Lib.hid hw
          have hkm : ((k + m : Nat) : Int) < (N : Int) := by omega
          clear hx hw
          by_cases hxf : x = full
          · subst hxf
            go_wp2
            go_roundw
            case rel => exact ⟨m + 1, q, by go_num, by go_num, by omega, fun j hj => by
              by_cases e : j = m
              · rw [e]; exact HX.out
              · exact HM.out j (by omega), HW.out⟩
            case measure => simp [intOf]; omega
          · have hxf' : x = !full := by cases x <;> cases full <;> simp_all
            subst hxf'
            have hst := pkd_step (m := m) HP.out (by rw [HL.out]; exact hlt) HM.out (by rw [HX.out]; simp) (by rw [HL.out]; exact hm)
            have HST := Lib.hid hst
            clear hst hxf
            have hb1 : Bo wr w.heap.size g l.length cl l := by rw [HW.out]; exact HBO.out.drew
            have hB1 : Below w.heap.size w wr := by rw [HW.out]; exact below_drewN'' HB.out q
            have hml := pkd_len HST.out.1
            have hem : l.length + (emit m).length ≤ 4 * N + 2 := by rw [HL.out, List.length_append] at hml; exact hml
            have HEM : Hid (emit m = if m < 255 then [m] else [255, m - 255]) := rfl
            have HB1 := Lib.hid hB1
            have hsz := hB1.size
            by_cases h255 : m < 255
            · rw [if_pos h255] at HEM
              have HBO1 := Lib.hid (hb1.alloc (.cells #[.int .u8 (m : Int)] 5))
              have SR := Lib.hid (Src.fresh (P := Try.prog) (w := wr) (tx := 22) Try.underlying22 5 #[.int .u8 (m : Int)] [m] 1 rfl rfl wr.heap.size rfl)
              have hszA : w.heap.size ≤ (wr.alloc (.cells #[.int .u8 (m : Int)] 5)).heap.size := by simp; omega
              clear hb1 hB1 hml
              go_wp2_with (at_builtin; refine wpList_append_bytes (W := wr.alloc (.cells #[.int .u8 (m : Int)] 5)) rfl _ _ _ _ rfl 5 (.int .u8 0) Try.underlying22 byteInfo rfl rfl w.heap.size g l.length cl l rfl HBO1.out 1 [m] SR.out (by omega) hszA ?_; intro g6 c6 w6 ho6 hg6 hd6)
              go_roundg (left_ (cs.drop (k + m)) (!full))
              case measure => have := HG.out; have := HST.out.2; omega
              case rel =>
                have hz6 := hg6.size
                refine ⟨k + m, g6, c6, l ++ [m], !full, by rw [List.length_append]; rfl, rfl, by go_num, hm, ?_, Nat.le_refl _, by rw [List.length_append]; exact ho6, (HB1.out.alloc hsz _).grown hg6 hszA (fun j e => by injection e with e; have := HBO1.out.ge; omega)⟩
                rw [← HEM.out]; exact HST.out.1
            · rw [if_neg h255] at HEM
              have hm5 : (m : Int) - 255 = ((m - 255 : Nat) : Int) := by omega
              have HBO1 := Lib.hid (hb1.alloc (.cells #[.int .u8 255, .int .u8 ((m - 255 : Nat) : Int)] 5))
              have SR := Lib.hid (Src.fresh (P := Try.prog) (w := wr) (tx := 22) Try.underlying22 5 #[.int .u8 255, .int .u8 ((m - 255 : Nat) : Int)] [255, m - 255] 2 rfl rfl wr.heap.size rfl)
              have hszA : w.heap.size ≤ (wr.alloc (.cells #[.int .u8 255, .int .u8 ((m - 255 : Nat) : Int)] 5)).heap.size := by simp; omega
              clear hb1 hB1 hml
              go_wp2_with (at_builtin; refine wpList_append_bytes (W := wr.alloc (.cells #[.int .u8 255, .int .u8 ((m - 255 : Nat) : Int)] 5)) rfl _ _ _ _ rfl 5 (.int .u8 0) Try.underlying22 byteInfo rfl rfl w.heap.size g l.length cl l rfl HBO1.out 2 [255, m - 255] SR.out (by omega) hszA ?_; intro g6 c6 w6 ho6 hg6 hd6)
              go_roundg (left_ (cs.drop (k + m)) (!full))
              case measure => have := HG.out; have := HST.out.2; omega
              case rel =>
                have hz6 := hg6.size
                refine ⟨k + m, g6, c6, l ++ [255, m - 255], !full, by rw [List.length_append]; rfl, rfl, by go_num, hm, ?_, Nat.le_refl _, by rw [List.length_append]; exact ho6, (HB1.out.alloc hsz _).grown hg6 hszA (fun j e => by injection e with e; have := HBO1.out.ge; omega)⟩
                rw [← HEM.out]; exact HST.out.1
        · have hmN : k + m = N := by omega
          have hst := pkd_step (m := m) HP.out (by rw [HL.out]; exact hlt) HM.out (by rw [List.getElem?_eq_none (by rw [HL.out]; omega)]; simp) (by rw [HL.out]; exact hm)
          have HST := Lib.hid hst
          have HW := Lib.hid hw
          clear hst hw
          have hkm : ¬ ((k + m : Nat) : Int) < (N : Int) := by omega
          have hb1 : Bo wr w.heap.size g l.length cl l := by rw [HW.out]; exact HBO.out.drew
          have hB1 : Below w.heap.size w wr := by rw [HW.out]; exact below_drewN'' HB.out q
          have hml := pkd_len HST.out.1
          have hem : l.length + (emit m).length ≤ 4 * N + 2 := by rw [HL.out, List.length_append] at hml; exact hml
          have HEM : Hid (emit m = if m < 255 then [m] else [255, m - 255]) := rfl
          have HB1 := Lib.hid hB1
          have hsz := hB1.size
          by_cases h255 : m < 255
          · rw [if_pos h255] at HEM
            have HBO1 := Lib.hid (hb1.alloc (.cells #[.int .u8 (m : Int)] 5))
            have SR := Lib.hid (Src.fresh (P := Try.prog) (w := wr) (tx := 22) Try.underlying22 5 #[.int .u8 (m : Int)] [m] 1 rfl rfl wr.heap.size rfl)
            have hszA : w.heap.size ≤ (wr.alloc (.cells #[.int .u8 (m : Int)] 5)).heap.size := by simp; omega
            clear hb1 hB1 hml
            go_wp2_with (at_builtin; refine wpList_append_bytes (W := wr.alloc (.cells #[.int .u8 (m : Int)] 5)) rfl _ _ _ _ rfl 5 (.int .u8 0) Try.underlying22 byteInfo rfl rfl w.heap.size g l.length cl l rfl HBO1.out 1 [m] SR.out (by omega) hszA ?_; intro g6 c6 w6 ho6 hg6 hd6)
            go_roundg (left_ (cs.drop (k + m)) (!full))
            case measure => have := HG.out; have := HST.out.2; omega
            case rel =>
              have hz6 := hg6.size
              refine ⟨k + m, g6, c6, l ++ [m], !full, by rw [List.length_append]; rfl, rfl, by go_num, hm, ?_, Nat.le_refl _, by rw [List.length_append]; exact ho6, (HB1.out.alloc hsz _).grown hg6 hszA (fun j e => by injection e with e; have := HBO1.out.ge; omega)⟩
              rw [← HEM.out]; exact HST.out.1
          · rw [if_neg h255] at HEM
            have hm5 : (m : Int) - 255 = ((m - 255 : Nat) : Int) := by omega
            have HBO1 := Lib.hid (hb1.alloc (.cells #[.int .u8 255, .int .u8 ((m - 255 : Nat) : Int)] 5))
            have SR := Lib.hid (Src.fresh (P := Try.prog) (w := wr) (tx := 22) Try.underlying22 5 #[.int .u8 255, .int .u8 ((m - 255 : Nat) : Int)] [255, m - 255] 2 rfl rfl wr.heap.size rfl)
            have hszA : w.heap.size ≤ (wr.alloc (.cells #[.int .u8 255, .int .u8 ((m - 255 : Nat) : Int)] 5)).heap.size := by simp; omega
            clear hb1 hB1 hml
            go_wp2_with (at_builtin; refine wpList_append_bytes (W := wr.alloc (.cells #[.int .u8 255, .int .u8 ((m - 255 : Nat) : Int)] 5)) rfl _ _ _ _ rfl 5 (.int .u8 0) Try.underlying22 byteInfo rfl rfl w.heap.size g l.length cl l rfl HBO1.out 2 [255, m - 255] SR.out (by omega) hszA ?_; intro g6 c6 w6 ho6 hg6 hd6)
            go_roundg (left_ (cs.drop (k + m)) (!full))
            case measure => have := HG.out; have := HST.out.2; omega
            case rel =>
              have hz6 := hg6.size
              refine ⟨k + m, g6, c6, l ++ [255, m - 255], !full, by rw [List.length_append]; rfl, rfl, by go_num, hm, ?_, Nat.le_refl _, by rw [List.length_append]; exact ho6, (HB1.out.alloc hsz _).grown hg6 hszA (fun j e => by injection e with e; have := HBO1.out.ge; omega)⟩
              rw [← HEM.out]; exact HST.out.1
    · obtain rfl : k = N := by omega
      have hpe := HP.out
      rw [← HL.out] at hpe
      have HPE := Lib.hid (pkd_end hpe)
      have HBO := Lib.hid hbo
      have HB := Lib.hid hb
      clear hpe hbo hb
      go_wp2
      go_ret
      have hbo := HBO.out
      have e : pack cs = l := HPE.out
      subst e
      exact ⟨g, cl, rfl, hbo, HB.out⟩
end Go.Proofs.Ytbkacmklgkgamaa

/- Walks: the parts of a text between marks, by the reference. Condition: texts are shorter than 2^63. -/
import Derived.Test.YthgdikdcbkhgjaaDoorRows
import Derived.Test.YthgdikdcbkhgjaaDoorDu
import Derived.Test.YthgdikdcbkhgjaaDoorApp
namespace Go.Proofs.YthgdikdcbkhgjaaDoor
open Go.RowKit

theorem strInfoD : (Tryd.prog.info? 9).map (fun i => (i.zero, i.size, i.bytes)) = some (some (.string ⟨#[]⟩), 1, 16) := by kernel_rfl
set_option maxRecDepth 100000 in
set_option maxHeartbeats 2000000 in
theorem l01CutC_any (c : UInt8) (s : ByteArray) (w : World) (hs : s.size ≤ 1048576) : Calls Tryd.prog 43 #[.string s, .int .u8 ((c.toNat : Nat) : Int)] w fun e w' => ∃ A cc, e = .returned (.slice A (partsC c s).length cc) ∧ w'.ownsRow w.heap.size 9 1 (.slice A (partsC c s).length cc) (partsC c s).length ((partsC c s).map Value.string) ∧ Below w.heap.size w w' := by
  obtain ⟨q, hq⟩ : ∃ q, c.toNat = q := ⟨_, rfl⟩
  have HQ := Lib.hid hq
  rw [hq]
  clear hq
  go_enter Tryd.func43, Tryd.ntmps43
  go_wp2
  go_loopw [5, 6, 7] (fun so sf si wr => ∃ (i f : Nat) (out : List ByteArray) (Al : Option Addr) (cl : Nat), so = .slice Al out.length cl ∧ sf = .int .i64 f ∧ si = .int .i64 i ∧ f ≤ i ∧ i ≤ s.size + 1 ∧ out.length ≤ i ∧
    Hid (∀ j, f ≤ j → j < i → j < s.size → s.data.toList[j]? ≠ some c) ∧ Hid (if i ≤ s.size then out ++ partsC c (s.extract f s.size) = partsC c s else out = partsC c s) ∧
    wr.ownsRow w.heap.size 9 1 (.slice Al out.length cl) out.length (out.map Value.string) ∧ Below w.heap.size w wr) (fun _ _ si _ => s.size + 1 - (intOf si).toNat)
  case atStart => exact ⟨0, 0, [], some ⟨w.heap.size, 0, none⟩, 0, rfl, rfl, rfl, Nat.le_refl _, by omega, Nat.le_refl _, fun j h1 h2 => absurd h2 (by omega), by unfold Hid; rw [if_pos (by omega), pc_all]; rfl, (Blk.new w _ _).own (n := 0) (size := 1) (Nat.le_refl _) rfl (by unfold maxLen; omega), (Below.refl _ _).alloc (Nat.le_refl _) _⟩
  case round =>
    obtain ⟨i, f, out, Al, cl, rfl, rfl, rfl, hfi, hi, hol, HN, HP, ho, hb⟩ := hrel
    have HO := Lib.hid ho
    have HB := Lib.hid hb
    have hsz := hb.size
    clear ho hb
    by_cases hle : i ≤ s.size
    · have hp := HP.out
      rw [if_pos hle] at hp
      have HPP := Lib.hid hp
      have hif : (0 : Int) ≤ (f : Int) ∧ (f : Int) ≤ (i : Int) ∧ (i : Int) ≤ (s.size : Int) := by omega
      clear HP hp
      by_cases heq : i = s.size
      · have HE : Hid (partsC c (s.extract f s.size) = [s.extract f s.size]) := pc_end fun j h1 h2 => HN.out j h1 (by omega) h2
        subst heq
        have hdd : ((s.size : Int) == (s.size : Int)) = true := by simp
        go_wp2_with (at_builtin; refine wpList_append_one (W := wr) rfl _ _ _ rfl w.heap.size 9 (.string ⟨#[]⟩) 16 Tryd.underlying32 strInfoD rfl Al out.length cl _ rfl HO.out (.string (s.extract f s.size)) _ rfl rfl rfl (by unfold maxLen; omega) (by omega) hsz ?_; intro A3 c3 w3 ho3 hg3 hd3)
        go_roundw
        case rel =>
          refine ⟨s.size + 1, s.size + 1, out ++ [s.extract f s.size], A3, c3, by rw [List.length_append, List.length_singleton], by go_num, by go_num, Nat.le_refl _, Nat.le_refl _, by rw [List.length_append, List.length_singleton]; omega, fun j h1 h2 h3 => absurd h3 (by omega), ?_, ?_, HB.out.grown hg3 hsz (fun j e => (HO.out.lt j e).1)⟩
          · unfold Hid
            rw [if_neg (by omega), ← HPP.out, HE.out]
          · rw [List.length_append, List.length_singleton, List.map_append]
            exact ho3
        case measure => first | (simp [intOf]; done) | (simp [intOf]; omega)
      · have hlt : i < s.size := by omega
        have hgt : s.data.toList[i]? = some s[i] := by
          rw [List.getElem?_eq_getElem (by simpa using hlt)]
          rfl
        have hdd : ((i : Int) == (s.size : Int)) = false := by
          rw [beq_eq_false_iff_ne]
          omega
        have hne : ¬ (i : Int) = (s.size : Int) := by omega
        obtain ⟨b, eb⟩ : ∃ b : Nat, s[i].toNat = b := ⟨_, rfl⟩
        by_cases h10 : b = q
        · have hc : s.data.toList[i]? = some c := by
            rw [hgt]
            congr 1
            apply UInt8.toNat_inj.1
            rw [eb, h10, HQ.out]
          have HH := Lib.hid (pc_hit hfi hlt hc (fun j h1 h2 => HN.out j h1 h2 (by omega)))
          subst h10
          have hbb : ((b : Int) == (b : Int)) = true := by simp
          clear hgt hc
          go_wp2_with (at_builtin; refine wpList_append_one (W := wr) rfl _ _ _ rfl w.heap.size 9 (.string ⟨#[]⟩) 16 Tryd.underlying32 strInfoD rfl Al out.length cl _ rfl HO.out (.string (s.extract f i)) _ rfl rfl rfl (by unfold maxLen; omega) (by omega) hsz ?_; intro A3 c3 w3 ho3 hg3 hd3)
          go_roundw
          case rel =>
            refine ⟨i + 1, i + 1, out ++ [s.extract f i], A3, c3, by rw [List.length_append, List.length_singleton], by go_num, by go_num, Nat.le_refl _, by omega, by rw [List.length_append, List.length_singleton]; omega, fun j h1 h2 h3 => absurd h2 (by omega), ?_, ?_, HB.out.grown hg3 hsz (fun j e => (HO.out.lt j e).1)⟩
            · unfold Hid
              rw [if_pos (by omega), ← HPP.out, HH.out]
              simp
            · rw [List.length_append, List.length_singleton, List.map_append]
              exact ho3
          case measure => first | (simp [intOf]; done) | (simp [intOf]; omega)
        · have hc : s.data.toList[i]? ≠ some c := by
            rw [hgt]
            intro e
            injection e with e
            rw [e] at eb
            exact h10 (eb.symm.trans HQ.out)
          have HC := Lib.hid hc
          have hb10 : ((b : Int) == (q : Int)) = false := by
            rw [beq_eq_false_iff_ne]
            omega
          clear hgt hc
          go_wp2
          go_roundw
          case rel =>
            refine ⟨i + 1, f, out, Al, cl, rfl, rfl, by go_num, by omega, by omega, by omega, fun j h1 h2 h3 => ?_, ?_, HO.out, HB.out⟩
            · by_cases e : j = i
              · rw [e]; exact HC.out
              · exact HN.out j h1 (by omega) h3
            · unfold Hid
              rw [if_pos (by omega)]
              exact HPP.out
          case measure => first | (simp [intOf]; done) | (simp [intOf]; omega)
    · have hp := HP.out
      rw [if_neg hle] at hp
      subst hp
      clear HP
      go_wp2
      go_ret
      exact ⟨Al, cl, rfl, HO.out, HB.out⟩
end Go.Proofs.YthgdikdcbkhgjaaDoor

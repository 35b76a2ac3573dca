/- Walk: a word without brackets that the reference draws out of bytes. Conditions: at most 2^20 bytes. -/
import Derived.Test.YtkldgcgijkfpaaaIs
import Derived.Test.YtkldgcgijkfpaaaApp
namespace Go.Proofs.Ytkldgcgijkfpaaa
open Go.RowKit

/-- The letters that words are drawn of. -/
def Ltr (b : UInt8) : Prop := b = 70 ∨ b = 71 ∨ b = 88 ∨ b = 43 ∨ b = 45
theorem bytes_append (a b : ByteArray) : (a ++ b).data.toList = a.data.toList ++ b.data.toList := by
  simp [ByteArray.data_append]
set_option maxRecDepth 100000 in
set_option maxHeartbeats 1000000 in
theorem text_any (g n c at_ B : Nat) (A : Option Addr) (bs : List Nat) (w : World) (hat : at_ ≤ 1000) (h : Src w g A n c at_ bs) (hB : B ≠ g) (hBl : B < w.heap.size)
    (h0 : w.cell? ⟨B, 0, none⟩ = some (.string ⟨#[70]⟩)) (h1 : w.cell? ⟨B, 1, none⟩ = some (.string ⟨#[70]⟩)) (h2 : w.cell? ⟨B, 2, none⟩ = some (.string ⟨#[71]⟩)) (h3 : w.cell? ⟨B, 3, none⟩ = some (.string ⟨#[88]⟩)) (h4 : w.cell? ⟨B, 4, none⟩ = some (.string ⟨#[43]⟩)) (h5 : w.cell? ⟨B, 5, none⟩ = some (.string ⟨#[45]⟩)) :
    Calls Try.prog 30 #[.pointer (some ⟨g, 0, none⟩), .slice (some ⟨B, 0, none⟩) 6 6] w fun e w' => (∃ b : UInt8, Ltr b ∧ e = .returned (.string ⟨#[b]⟩)) ∧ Src w' g A n c (at_ + 1) bs ∧ w.grownBy w' (some g) := by
  have P0 := Lib.hid (pick_any g n c at_ 6 A bs w (by omega) (by omega) (by omega) h)
  have HC : Hid (∀ w', w.grownBy w' (some g) → ∀ i, i < 6 → ∃ b : UInt8, Ltr b ∧ w'.cell? ⟨B, i, none⟩ = some (.string ⟨#[b]⟩)) := Lib.hid fun w' hg i hi => by
    have k : ∀ {v}, w.cell? ⟨B, i, none⟩ = some v → w'.cell? ⟨B, i, none⟩ = some v := fun hv => hg.cell hv (fun e => by injection e with e; exact hB e)
    rcases (by omega : i = 0 ∨ i = 1 ∨ i = 2 ∨ i = 3 ∨ i = 4 ∨ i = 5) with rfl | rfl | rfl | rfl | rfl | rfl
    · exact ⟨70, .inl rfl, k h0⟩
    · exact ⟨70, .inl rfl, k h1⟩
    · exact ⟨71, .inr (.inl rfl), k h2⟩
    · exact ⟨88, .inr (.inr (.inl rfl)), k h3⟩
    · exact ⟨43, .inr (.inr (.inr (.inl rfl))), k h4⟩
    · exact ⟨45, .inr (.inr (.inr (.inr rfl))), k h5⟩
  clear h h0 h1 h2 h3 h4 h5
  go_enter Try.func30, Try.ntmps30
  go_wp2_with fail
  refine P0.out.mono ?_
  rintro e w1 ⟨x, rfl, hx, hs, hg⟩
  obtain ⟨b, hb, hc⟩ := HC.out w1 hg x hx
  have HS := Lib.hid hs
  have HG := Lib.hid hg
  have HL := Lib.hid hb
  have hx6 : (x : Int) < 6 := by omega
  have hx0 : (0 : Int) ≤ (x : Int) := by omega
  clear hs hg hb P0 HC
  go_wp2
  go_ret
  exact ⟨⟨b, HL.out, rfl⟩, HS.out, HG.out⟩
/-- The words that are drawn. -/
def Wrd (s : ByteArray) : Prop := s.size ≤ 16 ∧ ∀ b ∈ s.data.toList, Ltr b
set_option maxRecDepth 100000 in
set_option maxHeartbeats 4000000 in
theorem R8Word_ok (n c : Nat) (A : Option Addr) (bs : List Nat) (w : World) (hn : n ≤ 1048576) (hc : n ≤ c) (hb : ∀ x ∈ bs, x < 256) (hA : Rd w w.heap.size 1 A n (bs.map u8v)) :
    Calls Try.prog 6 #[.slice A n c] w fun e w' => ∃ s : ByteArray, Wrd s ∧ e = .returned (.string s) ∧ Below w.heap.size w w' := by
  obtain ⟨u, eu⟩ : ∃ u, u = w.alloc (.cells #[.slice A n c, .int .i64 0, .int .u64 0] 86) := ⟨_, rfl⟩
  have V0 : Hid (Below w.heap.size w u) := by rw [eu]; exact (Below.refl _ _).alloc (Nat.le_refl _) _
  have S0 : Hid (Src u w.heap.size A n c 0 bs) := by
    rw [eu]
    exact ⟨⟨0, by omega, by omega, Blk.new _ _ _⟩, hA.below ((Below.refl _ _).alloc (Nat.le_refl _) _), hb, hn, hc⟩
  have FC : Hid (Calls Try.prog 28 #[.slice A n c] w fun e w' => e = .returned (.pointer (some ⟨w.heap.size, 0, none⟩)) ∧ w' = u) := by rw [eu]; exact l00From_any A n c w
  have PK := Lib.hid (pick_any w.heap.size n c 0 17 A bs u (by omega) (by omega) (by omega) S0.out)
  clear eu hA
  go_enter Try.func6, Try.ntmps6
  go_wp2_with fail
  refine FC.out.mono ?_
  rintro e u' ⟨rfl, hu⟩
  obtain rfl := hu.symm
  clear FC
  go_wp2_with fail
  refine PK.out.mono ?_
  rintro e u1 ⟨m, rfl, hm, hs1, hg1⟩
  have S1 := Lib.hid hs1
  have V1 := Lib.hid (V0.out.grown hg1 V0.out.size (fun k e => by injection e with e; omega))
  clear hs1 hg1 PK S0 V0
  go_wp2
  go_loopw [4, 5] (fun st sk wr => ∃ (s : ByteArray) (i : Nat), i ≤ m ∧ sk = .int .i64 ((m - i : Nat) : Int) ∧ st = .string s ∧ s.size = i ∧ Hid (∀ b ∈ s.data.toList, Ltr b) ∧ Hid (Src wr w.heap.size A n c (1 + i) bs) ∧ Hid (Below w.heap.size w wr)) (fun _ sk _ => (intOf sk).toNat)
  case atStart => exact ⟨⟨#[]⟩, 0, Nat.zero_le _, rfl, rfl, rfl, Lib.hid fun b hb => absurd hb (by simp), S1, V1⟩
  case round =>
    clear S1 V1
    obtain ⟨s, i, hi, rfl, rfl, hsz, HL, SR, V⟩ := hrel
    by_cases hlt : i < m
    · obtain ⟨k, hk⟩ : ∃ k, m - i = k := ⟨_, rfl⟩
      rw [hk]
      have hk0 : (0 : Int) < (k : Int) := by omega
      obtain ⟨k1, hk1⟩ : ∃ k1, m - (i + 1) = k1 := ⟨_, rfl⟩
      have hkk : (k : Int) - 1 = (k1 : Int) := by omega
      have hk17 : k ≤ 17 := by omega
      obtain ⟨v, ev⟩ : ∃ v, v = wr.alloc (.cells #[.string ⟨#[70]⟩, .string ⟨#[70]⟩, .string ⟨#[71]⟩, .string ⟨#[88]⟩, .string ⟨#[43]⟩, .string ⟨#[45]⟩] 9) := ⟨_, rfl⟩
      have SV : Hid (Src v w.heap.size A n c (1 + i) bs) := by rw [ev]; exact Lib.hid (SR.out.alloc _)
      have VV : Hid (Below w.heap.size w v) := by rw [ev]; exact Lib.hid (V.out.alloc V.out.size _)
      have BB : Hid (Blk v wr.heap.size 9 #[.string ⟨#[70]⟩, .string ⟨#[70]⟩, .string ⟨#[71]⟩, .string ⟨#[88]⟩, .string ⟨#[43]⟩, .string ⟨#[45]⟩]) := by rw [ev]; exact Lib.hid (Blk.new _ _ _)
      have TX := Lib.hid (text_any w.heap.size n c (1 + i) wr.heap.size A bs v (by omega) SV.out (by have := SR.out.size; omega) BB.out.lt (BB.out.cell 0) (BB.out.cell 1) (BB.out.cell 2) (BB.out.cell 3) (BB.out.cell 4) (BB.out.cell 5))
      have EV := Lib.hid ev
      have HK := Lib.hid (show m - i = k ∧ m - (i + 1) = k1 from ⟨hk, hk1⟩)
      clear hk hk1 ev SR V BB
      go_wp2_with fail
      rw [← EV.out]
      refine TX.out.mono ?_
      rintro e w2 ⟨⟨b, hb, rfl⟩, hs2, hg2⟩
      have S2 := Lib.hid hs2
      have V2 := Lib.hid (VV.out.grown hg2 VV.out.size (fun k e => by injection e with e; omega))
      have HB := Lib.hid hb
      clear hs2 hg2 hb SV VV TX EV
      go_wp2
      go_roundw
      case rel =>
        refine ⟨s ++ ⟨#[b]⟩, i + 1, by omega, ?_, rfl, ?_, Lib.hid fun x hx => ?_, ?_, V2⟩
        · rw [HK.out.2]
        · rw [ByteArray.size_append, hsz]; rfl
        · rw [bytes_append] at hx
          rcases List.mem_append.1 hx with h | h
          · exact HL.out x h
          · have : x = b := by simpa using h
            rw [this]; exact HB.out
        · rw [show 1 + (i + 1) = 1 + i + 1 by omega]; exact S2
      case measure => simp [intOf]; omega
    · obtain rfl : i = m := by omega
      have h0 : ((i - i : Nat) : Int) = 0 := by omega
      rw [h0]
      go_wp2
      go_ret
      exact ⟨s, ⟨by omega, HL.out⟩, rfl, V.out⟩
end Go.Proofs.Ytkldgcgijkfpaaa

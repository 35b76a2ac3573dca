/- Walks: the library's stable sort at single-precision numbers. Conditions: finite numbers, at most 2^20. -/
import Derived.Test.YtbkacmklgkgamaaVn
namespace Go.Proofs.Ytbkacmklgkgamaa
open Go.RowKit

theorem Done.shuf {K : Nat → Int} {L L' : List (Nat × Nat)} {z a b n : Nat} (h : Done K L z a n) (k : Shuf a b L L') (hb : b ≤ n) : Done K L' z a n := fun j hj => by
  obtain ⟨h1, h2⟩ := h j hj
  exact ⟨h1.shuf k (.inl hj), h2.shuf k (.inl (by omega)) hb⟩
theorem Good.zeroth {K : Nat → Int} {L : List (Nat × Nat)} {z a n : Nat} (h : Good K L z a n) : Srt K L a (min (a + z) n) ∧ Tg L 0 a n := by
  have := h 0
  rwa [Nat.zero_mul, Nat.add_zero] at this
theorem Good.first {K : Nat → Int} {L : List (Nat × Nat)} {z a n : Nat} (h : Good K L z a n) : Srt K L (a + z) (min (a + z + z) n) ∧ Tg L 0 (a + z) n := by
  have := h 1
  rwa [Nat.one_mul] at this
theorem symMerge_any (base g n c : Nat) (hn : n ≤ 1048576) : ∀ (F a m b : Nat) (L : List (Nat × Nat)) (w : World), b - a ≤ F → a < m → m < b → b ≤ n → w.ownsRow base 50 1 (.slice (some ⟨g, 0, none⟩) n c) n (L.map tv) → FinAll L → Srt fval L a m → Srt fval L m b → Tg L a m b → MergeC base g n c a m b L w := by
  intro F
  induction F with
  | zero => intro a m b L w h h1 h2; omega
  | succ F ih =>
    intro a m b L w h h1 h2 hb hO hF hs1 hs2 hT
    by_cases c1 : m = a + 1
    · subst c1
      exact merge_left base g n c a b L w hn hO h2 hb hF hs2 hT
    · by_cases c2 : b = m + 1
      · subst c2
        exact merge_right base g n c a m L w hn hO (by omega) hb hF hs1 hT
      · exact merge_mid base g n c a m b L w hn hO (by omega) (by omega) hb hF hs1 hs2 hT (fun a' m' b' L' w' q => ih a' m' b' L' w' (by omega))
set_option maxRecDepth 100000 in
set_option maxHeartbeats 4000000 in
theorem stable_any (base g n c : Nat) (L : List (Nat × Nat)) (w : World) (hn : n ≤ 1048576) (hO : w.ownsRow base 50 1 (.slice (some ⟨g, 0, none⟩) n c) n (L.map tv)) (hF : FinAll L) (hT : Tr L 0 n) :
    Calls Try.prog 57 #[.slice (some ⟨g, 0, none⟩) n c, .int .i64 (n : Int), .func (.func 43) #[] #[]] w (SortPost w base g n c 0 n L fun M => Srt fval M 0 n) := by
  have hl : L.length = n := by have := hO.1; simpa using this
  have HO := Lib.hid hO
  have HL := Lib.hid hl
  have HF := Lib.hid hF
  have HT := Lib.hid hT
  have D0 : Hid (Done fval L 20 0 n) := fun k h => by omega
  clear hO hl hF hT
  go_enter Try.func57, Try.ntmps57
  go_wp2
  go_loopw [7, 8] (fun sa sb wr => ∃ (k a : Nat) (M : List (Nat × Nat)), sa = .int .i64 (a : Int) ∧ sb = .int .i64 ((a : Int) + 20) ∧ a ≤ n ∧ Hid (k * 20 = a) ∧ Hid (Shuf 0 n L M) ∧ Hid (Done fval M 20 a n) ∧ Hid (∀ j, Tg M 0 (j * 20) n) ∧ Hid (∀ q, a ≤ q → el M q = el L q) ∧ Hid (wr.ownsRow base 50 1 (.slice (some ⟨g, 0, none⟩) n c) n (M.map tv)) ∧ Hid (w.grownBy wr (some g))) (fun sa _ _ => n - (intOf sa).toNat)
  case atStart => exact ⟨0, 0, L, rfl, rfl, Nat.zero_le _, rfl, .refl, D0, fun j => HT.out.tg, fun _ _ => rfl, HO, grown_of_below (Below.refl _ _) _⟩
  case round =>
    clear HO D0
    obtain ⟨k, a, M, rfl, rfl, han, hk, hS, hD, hTg, hout, hO, hG⟩ := hrel
    obtain ⟨wo, hwo⟩ : ∃ q, q = wr := ⟨_, rfl⟩
    subst hwo
    have hFM : Hid (FinAll M) := HF.out.shuf hS.out
    have HML : Hid (M.length = n) := by unfold Hid; rw [hS.out.len]; exact HL.out
    have hTr : Hid (Tr M a n) := fun p q h1 h2 h3 => by rw [hout.out p h1, hout.out q (by omega)]; exact HT.out p q (Nat.zero_le _) h2 h3
    obtain ⟨b, hb⟩ : ∃ b, a + 20 = b := ⟨_, rfl⟩
    have zb : (a : Int) + 20 = (b : Int) := by omega
    by_cases hbn : b ≤ n
    · have hbni : (b : Int) ≤ (n : Int) := by omega
      have IC := Lib.hid (insertion_any base g n c a b M wo hn hO.out (by omega) hbn hFM.out (fun p q h1 h2 h3 => hTr.out p q h1 h2 (by omega)))
      go_wp2_with fail
      refine IC.out.mono ?_
      rintro e w1 ⟨rfl, M', hS1, hT1, hO1, hG1⟩
      have ND : Hid (Done fval M' 20 b n) := by
        have hk' := hk.out
        have := (show Done fval M 20 (k * 20) n from hk'.symm ▸ hD.out).step (show Shuf (k * 20) (k * 20 + 20) M M' from by rw [hk', hb]; exact hS1) (by rw [hk', hb]; exact hT1) (hTg.out k) (by omega) (by omega)
        rwa [hk', hb] at this
      have NT : Hid (∀ j, Tg M' 0 (j * 20) n) := fun j => (hTg.out j).shuf hS1 (by have := hk.out; omega) hbn
      have NQ : Hid (∀ q, b ≤ q → el M' q = el L q) := fun q hq => (hS1.out (.inr hq)).trans (hout.out q (by omega))
      have NS : Hid (Shuf 0 n L M') := hS.out.trans (hS1.mono (Nat.zero_le _) hbn (by rw [HML.out]; exact Nat.le_refl _))
      have NK : Hid ((k + 1) * 20 = b) := by have := hk.out; unfold Hid; omega
      have NO := Lib.hid hO1
      have NG := Lib.hid (grown_trans' hG.out hG1)
      clear hS1 hT1 hO1 hG1 hk hS hD hTg hout hO hG hTr hFM HML IC
      go_wp2
      go_roundw
      case rel => exact ⟨k + 1, b, M', by first | rfl | go_num, by first | rfl | go_num, hbn, NK, NS, ND, NT, NQ, NO, NG⟩
      case measure => simp [intOf]; omega
    · have hbni : decide (b ≤ n) = false := by simp; omega
      have IC := Lib.hid (insertion_any base g n c a n M wo hn hO.out han (Nat.le_refl _) hFM.out hTr.out)
      go_wp2_with fail
      refine IC.out.mono ?_
      rintro e w1 ⟨rfl, M', hS1, hT1, hO1, hG1⟩
      have NG0 : Hid (Good fval M' 20 0 n) := by
        have hk' := hk.out
        have h1 := hD.out.shuf hS1 (Nat.le_refl _)
        refine Done.all (k0 := k) (by rw [hk']; exact h1) (by rw [hk']; exact hT1) ((hTg.out k).shuf hS1 (.inl (by omega)) (Nat.le_refl _)) (by omega) (by omega)
      have NS : Hid (Shuf 0 n L M') := hS.out.trans (hS1.mono (Nat.zero_le _) (Nat.le_refl _) (by rw [HML.out]; exact Nat.le_refl _))
      have NO := Lib.hid hO1
      have NG := Lib.hid (grown_trans' hG.out hG1)
      clear hS1 hT1 hO1 hG1 hk hS hD hTg hout hO hG hTr hFM HML IC
      go_wp2
      go_loopw [6] (fun sz wr => ∃ (z : Nat) (M : List (Nat × Nat)), sz = .int .i64 (z : Int) ∧ 20 ≤ z ∧ z ≤ 2 * n + 20 ∧ Hid (Shuf 0 n L M) ∧ Hid (Good fval M z 0 n) ∧ Hid (wr.ownsRow base 50 1 (.slice (some ⟨g, 0, none⟩) n c) n (M.map tv)) ∧ Hid (w.grownBy wr (some g))) (fun sz _ => n - (intOf sz).toNat)
      case atStart => exact ⟨20, M', rfl, by omega, by omega, NS, NG0, NO, NG⟩
      case round =>
        clear NS NG0 NO NG
        obtain ⟨z, M, rfl, hz, hz2, hS, hGd, hO, hG⟩ := hrel
        obtain ⟨wo, hwo⟩ : ∃ q, q = wr := ⟨_, rfl⟩
        subst hwo
        by_cases hzn : z < n
        · have hzni : (z : Int) < (n : Int) := by omega
          obtain ⟨Z, hZ⟩ : ∃ Z, 2 * z = Z := ⟨_, rfl⟩
          have zZ : 2 * (z : Int) = (Z : Int) := by omega
          have zZ' : (z : Int) * 2 = (Z : Int) := by omega
          have DZ : Hid (Done fval M Z 0 n) := fun k h => by omega
          go_wp2
          go_loopw [7, 8] (fun sa sb wr => ∃ (k a : Nat) (M : List (Nat × Nat)), sa = .int .i64 (a : Int) ∧ sb = .int .i64 ((a : Int) + (Z : Int)) ∧ a ≤ n ∧ Hid (k * Z = a) ∧ Hid (Shuf 0 n L M) ∧ Hid (Done fval M Z a n) ∧ Hid (Good fval M z a n) ∧ Hid (wr.ownsRow base 50 1 (.slice (some ⟨g, 0, none⟩) n c) n (M.map tv)) ∧ Hid (w.grownBy wr (some g))) (fun sa _ _ => n - (intOf sa).toNat)
          case atStart => exact ⟨0, 0, M, rfl, by go_num, Nat.zero_le _, Nat.zero_mul _, hS, DZ, hGd, hO, hG⟩
          case round =>
            clear hS DZ hGd hO hG
            obtain ⟨k, a, M, rfl, rfl, han, hk, hS, hD, hGd, hO, hG⟩ := hrel
            obtain ⟨wi, hwi⟩ : ∃ q, q = wr := ⟨_, rfl⟩
            subst hwi
            have hFM : Hid (FinAll M) := HF.out.shuf hS.out
            have HML : Hid (M.length = n) := by unfold Hid; rw [hS.out.len]; exact HL.out
            obtain ⟨b, hb⟩ : ∃ b, a + Z = b := ⟨_, rfl⟩
            have zb : (a : Int) + (Z : Int) = (b : Int) := by omega
            obtain ⟨m, hm⟩ : ∃ m, a + z = m := ⟨_, rfl⟩
            have zm : (a : Int) + (z : Int) = (m : Int) := by omega
            have hg0 := hGd.out.zeroth
            have hg1 := hGd.out.first
            rw [hm] at hg0 hg1
            by_cases hbn : b ≤ n
            · have hbni : (b : Int) ≤ (n : Int) := by omega
              have MC : Hid (MergeC base g n c a m b M wi) := symMerge_any base g n c hn (b - a) a m b M wi (Nat.le_refl _) (by omega) (by omega) hbn hO.out hFM.out (hg0.1.sub (Nat.le_refl _) (by omega)) (hg1.1.sub (Nat.le_refl _) (by omega)) (fun p q h1 h2 h3 h4 => hg1.2 p q (Nat.zero_le _) h2 h3 (by omega))
              unfold MergeC at MC
              go_wp2_with fail
              refine MC.out.mono ?_
              rintro e w1 ⟨rfl, M1, hS1, hT1, hO1, hG1⟩
              have ND : Hid (Done fval M1 Z b n) := by
                have hk' := hk.out
                have := (show Done fval M Z (k * Z) n from hk'.symm ▸ hD.out).step (show Shuf (k * Z) (k * Z + Z) M M1 from by rw [hk', hb]; exact hS1) (by rw [hk', hb]; exact hT1) (by rw [hk']; exact hg0.2) (by omega) (by rw [hk', hb]; exact hbn)
                rwa [hk', hb] at this
              have NQ : Hid (Good fval M1 z b n) := by
                have := hGd.out.next 2
                rw [show a + 2 * z = b by omega] at this
                exact this.shuf hS1 (Nat.le_refl _) hbn
              have NS : Hid (Shuf 0 n L M1) := hS.out.trans (hS1.mono (Nat.zero_le _) hbn (by rw [HML.out]; exact Nat.le_refl _))
              have NK : Hid ((k + 1) * Z = b) := by have := hk.out; unfold Hid; rw [Nat.add_mul, this, Nat.one_mul, hb]
              have NO := Lib.hid hO1
              have NG := Lib.hid (grown_trans' hG.out hG1)
              clear hS1 hT1 hO1 hG1 hk hS hD hGd hO hG hFM HML MC hg0 hg1
              go_wp2
              go_roundw
              case rel => exact ⟨k + 1, b, M1, by first | rfl | go_num, by first | rfl | go_num, hbn, NK, NS, ND, NQ, NO, NG⟩
              case measure => simp [intOf]; omega
            · have hbni : decide (b ≤ n) = false := by simp; omega
              by_cases hmn : m < n
              · have hmni : (m : Int) < (n : Int) := by omega
                have MC : Hid (MergeC base g n c a m n M wi) := symMerge_any base g n c hn (n - a) a m n M wi (Nat.le_refl _) (by omega) hmn (Nat.le_refl _) hO.out hFM.out (hg0.1.sub (Nat.le_refl _) (by omega)) (hg1.1.sub (Nat.le_refl _) (by omega)) (fun p q h1 h2 h3 h4 => hg1.2 p q (Nat.zero_le _) h2 h3 h4)
                unfold MergeC at MC
                go_wp2_with fail
                refine MC.out.mono ?_
                rintro e w1 ⟨rfl, M1, hS1, hT1, hO1, hG1⟩
                have NQ : Hid (Good fval M1 Z 0 n) := by
                  have hk' := hk.out
                  exact Done.all (k0 := k) (by rw [hk']; exact hD.out.shuf hS1 (Nat.le_refl _)) (by rw [hk']; exact hT1) (by rw [hk']; exact hg0.2.shuf hS1 (.inl (Nat.le_refl _)) (Nat.le_refl _)) (by omega) (by rw [hk', hb]; omega)
                have NS : Hid (Shuf 0 n L M1) := hS.out.trans (hS1.mono (Nat.zero_le _) (Nat.le_refl _) (by rw [HML.out]; exact Nat.le_refl _))
                have NO := Lib.hid hO1
                have NG := Lib.hid (grown_trans' hG.out hG1)
                clear hS1 hT1 hO1 hG1 hk hS hD hGd hO hG hFM HML MC hg0 hg1
                go_wp2
                go_roundw
                case rel => exact ⟨Z, M1, by first | rfl | go_num, by omega, by omega, NS, NQ, NO, NG⟩
                case measure => simp [intOf]; omega
              · have hmni : decide (m < n) = false := by simp; omega
                have NQ : Hid (Good fval M Z 0 n) := by
                  have hk' := hk.out
                  exact Done.all (k0 := k) (by rw [hk']; exact hD.out) (by rw [hk']; exact hg0.1.sub (Nat.le_refl _) (by omega)) (by rw [hk']; exact hg0.2) (by omega) (by rw [hk', hb]; omega)
                clear hk hD hGd hFM HML hg0 hg1
                go_wp2
                go_roundw
                case rel => exact ⟨Z, M, by first | rfl | go_num, by omega, by omega, hS, NQ, hO, hG⟩
                case measure => simp [intOf]; omega
        · have hzni : decide (z < n) = false := by simp; omega
          have FS : Hid (Srt fval M 0 n) := hGd.out.srt (by omega)
          go_wp2
          go_end0
          exact ⟨rfl, M, hS.out, FS.out, hO.out, hG.out⟩
set_option maxRecDepth 100000 in
set_option maxHeartbeats 400000 in
theorem sortStable_any (base g n c : Nat) (L : List (Nat × Nat)) (w : World) (hn : n ≤ 1048576) (hO : w.ownsRow base 50 1 (.slice (some ⟨g, 0, none⟩) n c) n (L.map tv)) (hF : FinAll L) (hT : Tr L 0 n) :
    Calls Try.prog 42 #[.slice (some ⟨g, 0, none⟩) n c, .func (.func 43) #[] #[]] w (SortPost w base g n c 0 n L fun M => Srt fval M 0 n) := by
  have SC := Lib.hid (stable_any base g n c L w hn hO hF hT)
  clear hO hF hT
  go_enter Try.func42, Try.ntmps42
  go_wp2_with fail
  refine SC.out.mono ?_
  rintro e w1 ⟨rfl, M, h1, h2, h3, h4⟩
  have H := Lib.hid (And.intro h1 (And.intro h2 (And.intro h3 h4)))
  clear h1 h2 h3 h4 SC
  go_wp2
  go_end0
  exact ⟨rfl, M, H.out.1, H.out.2.1, H.out.2.2.1, H.out.2.2.2⟩
end Go.Proofs.Ytbkacmklgkgamaa

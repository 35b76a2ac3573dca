/- Walks: check numbers and numbers in decimal, by the program and by the reference. Conditions: texts are shorter than 2^63, the numbers are below 65003. -/
import Derived.Test.YthgdikdcbkhgjaaDoorRows
import Derived.Test.YthgdikdcbkhgjaaDoorBy
import Derived.Test.YthgdikdcbkhgjaaDoorShelf
import Derived.Lib.ItoaMem
import Derived.Lib.SmallJoins
import Derived.Lib.AppendIntMem
namespace Go.Proofs.YthgdikdcbkhgjaaDoor
open Go.RowKit

def inB (n l h : Int) : Bool := decide (l ≤ n ∧ n ≤ h)
theorem ret_bool {a b : Bool} (h : a = b) : Ending.returned (.bool a) = .returned (.bool b) := by rw [h]

set_option maxHeartbeats 400000 in
theorem within_any (n l h : Int) (w : World) : Calls Tryd.prog 54 #[.int .i64 n, .int .i64 l, .int .i64 h] w fun e w' => e = .returned (.bool (inB n l h)) ∧ w' = w := by
  by_cases h1 : l ≤ n
  · by_cases h2 : n ≤ h
    · go_enter Tryd.func54, Tryd.ntmps54
      go_wp2
      go_ret
      exact ⟨ret_bool (by unfold inB; symm; simp; omega), rfl⟩
    · go_enter Tryd.func54, Tryd.ntmps54
      go_wp2
      go_ret
      exact ⟨ret_bool (by unfold inB; symm; simp; omega), rfl⟩
  · go_enter Tryd.func54, Tryd.ntmps54
    go_wp2
    go_ret
    exact ⟨ret_bool (by unfold inB; symm; simp; omega), rfl⟩

def chkStep (n : Nat) (b : UInt8) : Nat := (857 * n + b.toNat + 149) % 65003
def chk (n : Nat) (l : List UInt8) : Nat := l.foldl chkStep n
theorem chk_lt {n : Nat} (h : n < 65003) (l : List UInt8) : chk n l < 65003 := by
  unfold chk
  induction l generalizing n with
  | nil => exact h
  | cons b l ih => exact ih (Nat.mod_lt _ (by omega))
theorem chk_succ (n : Nat) (s : ByteArray) (k : Nat) (h : k < s.size) : chk n (s.data.toList.take (k + 1)) = chkStep (chk n (s.data.toList.take k)) s[k] := by
  unfold chk
  rw [List.take_succ_eq_append_getElem (by simpa using h), List.foldl_append]
  rfl

theorem chk_cast (n : Nat) (b : UInt8) : ((857 * (n : Int) + (b.toNat : Int) + 149) % 65003) = ((chkStep n b : Nat) : Int) := by unfold chkStep; omega
theorem ret_int' {k : IntKind} {a b : Int} (h : a = b) : Ending.returned (.int k a) = .returned (.int k b) := by rw [h]
set_option maxRecDepth 100000 in
set_option maxHeartbeats 1000000 in
theorem l01Check_any (n : Nat) (s : ByteArray) (w : World) (hs : s.size ≤ maxLen) (hn : n < 65003) : Calls Tryd.prog 51 #[.int .i64 (n : Int), .string s] w fun e w' => e = .returned (.int .i64 (chk n s.data.toList : Nat)) ∧ w' = w := by
  unfold maxLen at hs
  go_enter Tryd.func51, Tryd.ntmps51
  go_wp2
  go_loop [0, 5] (fun sn i => ∃ k : Nat, k ≤ s.size ∧ i = .int .i64 k ∧ sn = .int .i64 (chk n (s.data.toList.take k) : Nat)) (fun _ i => s.size - (intOf i).toNat)
  case atStart => exact ⟨0, Nat.zero_le _, rfl, rfl⟩
  case round =>
    obtain ⟨k, hk, rfl, rfl⟩ := hrel
    have hm := chk_lt hn (s.data.toList.take k)
    by_cases hlt : k < s.size
    · have hsu := chk_succ n s k hlt
      have hc := chk_cast (chk n (s.data.toList.take k)) s[k]
      have hx : s[k].toNat ≤ 255 := by have := s[k].toNat_lt; omega
      have HS := Lib.hid hsu
      obtain ⟨m, hm'⟩ : ∃ m, chk n (s.data.toList.take k) = m := ⟨_, rfl⟩
      rw [hm'] at hm hc HS ⊢
      clear hsu hm'
      go_wp2
      go_round
      case rel => exact ⟨k + 1, by omega, by go_num, by rw [HS.out, ← hc]⟩
      case measure => simp [intOf]; omega
    · obtain rfl : k = s.size := by omega
      have e : chk n (s.data.toList.take s.size) = chk n s.data.toList := by rw [List.take_of_length_le (by simp)]
      have HE := Lib.hid e
      clear e
      go_wp2
      go_ret
      exact ⟨ret_int' (by rw [HE.out]), rfl⟩
set_option maxRecDepth 100000 in
set_option maxHeartbeats 1000000 in
theorem CheckOf_any (n : Nat) (s : ByteArray) (w : World) (hs : s.size ≤ maxLen) (hn : n < 65003) : Calls Tryd.prog 35 #[.int .i64 (n : Int), .string s] w fun e w' => e = .returned (.tuple #[.int .i64 (chk n s.data.toList : Nat), .bool true]) ∧ w' = w := by
  unfold maxLen at hs
  have hb : inB (n : Int) 0 65002 = true := by unfold inB; simp; omega
  have HB := Lib.hid hb
  clear hb
  go_enter Tryd.func35, Tryd.ntmps35
  go_wp2_with fail
  refine (within_any _ _ _ _).mono ?_
  rintro e w5 ⟨rfl, h5⟩
  obtain rfl := h5.symm
  rw [HB.out]
  go_wp2
  go_loop [0, 12] (fun sn i => ∃ k : Nat, k ≤ s.size ∧ i = .int .i64 k ∧ sn = .int .i64 (chk n (s.data.toList.take k) : Nat)) (fun _ i => s.size - (intOf i).toNat)
  case atStart => exact ⟨0, Nat.zero_le _, rfl, rfl⟩
  case round =>
    obtain ⟨k, hk, rfl, rfl⟩ := hrel
    have hm := chk_lt hn (s.data.toList.take k)
    by_cases hlt : k < s.size
    · have hsu := chk_succ n s k hlt
      have hc := chk_cast (chk n (s.data.toList.take k)) s[k]
      have hx : s[k].toNat ≤ 255 := by have := s[k].toNat_lt; omega
      have HS := Lib.hid hsu
      obtain ⟨m, hm'⟩ : ∃ m, chk n (s.data.toList.take k) = m := ⟨_, rfl⟩
      rw [hm'] at hm hc HS ⊢
      clear hsu hm'
      go_wp2
      go_round
      case rel => exact ⟨k + 1, by omega, by go_num, by rw [HS.out, ← hc]⟩
      case measure => simp [intOf]; omega
    · obtain rfl : k = s.size := by omega
      have e : chk n (s.data.toList.take s.size) = chk n s.data.toList := by rw [List.take_of_length_le (by simp)]
      have HE := Lib.hid e
      clear e
      go_wp2
      go_ret2
      exact ⟨by rw [← HE.out]; rfl, rfl⟩


/-- A number's digits. -/
def dd (u : Nat) : List Nat := (Lib.decDigits u).map (·.toNat)
theorem dd_lt {u : Nat} (h : u < 10) : dd u = [48 + u] := by
  unfold dd
  rw [Lib.decDigits_one h]
  simp
  omega
theorem dd_ge {u : Nat} (h : 10 ≤ u) : dd u = dd (u / 10) ++ [48 + u % 10] := by
  unfold dd
  conv => lhs; rw [Lib.decDigits]
  rw [dif_neg (by omega)]
  simp
  omega
/-- Digits that have been told, and the rest. -/
def decAt (n : Nat) (l : List Nat) (r : Nat) : Prop := (l = [] ∧ r = n) ∨ (l ≠ [] ∧ (if r = 0 then l else dd r ++ l) = dd n)
theorem decAt_step {n r : Nat} {l : List Nat} (h : decAt n l r) (hr : l = [] ∨ r ≠ 0) : decAt n ((48 + r % 10) :: l) (r / 10) := by
  refine .inr ⟨by simp, ?_⟩
  have hd : ∀ k, (if k / 10 = 0 then (48 + k % 10) :: l else dd (k / 10) ++ (48 + k % 10) :: l) = dd k ++ l := fun k => by
    by_cases hk : k < 10
    · rw [if_pos (by omega), dd_lt hk, show k % 10 = k from by omega]; rfl
    · rw [if_neg (by omega), dd_ge (u := k) (by omega)]; simp
  rw [hd]
  rcases h with ⟨rfl, rfl⟩ | ⟨h1, h2⟩
  · simp
  · rw [if_neg (by rcases hr with h | h; exact absurd h h1; exact h)] at h2
    exact h2
theorem decAt_end {n : Nat} {l : List Nat} (h : decAt n l 0) (hl : l ≠ []) : l = dd n := by
  rcases h with ⟨h1, _⟩ | ⟨_, h2⟩
  · exact absurd h1 hl
  · simpa using h2
/-- A number in decimal. -/
def dec (n : Nat) : ByteArray := ⟨(Lib.itoa (n : Int)).toArray⟩
theorem dec_eq (n : Nat) : txt (dd n) = dec n := by
  unfold txt dec dd
  rw [Lib.itoa_nonneg, List.map_map]
  congr 2
  conv => rhs; rw [← List.map_id (Lib.decDigits n)]
  exact List.map_congr_left fun x _ => by simp
theorem Bo.one (w : World) {B : Nat} (e : TypeId) (hB : B ≤ w.heap.size) (n : Nat) : Bo (w.alloc (.cells #[.int .u8 (n : Int)] e)) B w.heap.size 1 1 [n] := by
  have hh : (w.alloc (.cells #[.int .u8 (n : Int)] e)).heap[w.heap.size]? = some (.cells #[.int .u8 (n : Int)] e) := heap_alloc_new w _
  refine ⟨rfl, hB, by simp, Nat.le_refl _, by unfold maxLen; omega, fun j hj => ?_, fun j u hu => ?_⟩
  · obtain rfl : j = 0 := by omega
    unfold World.cell? World.frozen?
    rw [hh]
    simp
  · have hj := (List.getElem?_eq_some_iff.1 hu).1
    obtain rfl : j = 0 := by simpa [bc] using hj
    unfold World.cell?
    rw [hh]
    simpa [bc] using hu
theorem u8Info : (Tryd.prog.info? 5).map (fun i => (i.zero, i.size, i.bytes)) = some (some (.int .u8 0), 1, 1) := by kernel_rfl
set_option maxRecDepth 100000 in
set_option maxHeartbeats 2000000 in
theorem l01Dec_any (n : Nat) (w : World) (hn : n < 1000000) : Calls Tryd.prog 52 #[.int .i64 (n : Int)] w fun e w' => e = .returned (.string (dec n)) ∧ Below w.heap.size w w' := by
  have HNA := Lib.hid (show n < 1000000 from hn)
  go_enter Tryd.func52, Tryd.ntmps52
  go_wp2
  go_loopg [3, 4] (n + 1) (fun gk so sr wr => ∃ (l : List Nat) (r g c : Nat), so = .slice (some ⟨g, 0, none⟩) l.length c ∧ sr = .int .i64 (r : Int) ∧ l.length + r ≤ n + 1 ∧ Hid (r + (if l.length = 0 then 1 else 0) ≤ gk) ∧ Hid (decAt n l r) ∧ Hid (Bo wr w.heap.size g l.length c l) ∧ Below w.heap.size w wr)
  case atStart => exact ⟨[], n, w.heap.size, 0, rfl, rfl, by simp, by unfold Hid; simp, .inl ⟨rfl, rfl⟩, Bo.made w _ (Nat.le_refl _), (Below.refl _ _).alloc (Nat.le_refl _) _⟩
  case round =>
    obtain ⟨l, r, g, c, rfl, rfl, hlr, HG, HD, HO, hb⟩ := hrel
    have HB := Lib.hid hb
    have hsz := hb.size
    have HLEN := Lib.hid (show l.length = 0 → l = [] from fun h => List.eq_nil_of_length_eq_zero h)
    clear hb
    obtain ⟨k, ek⟩ : ∃ k, l.length = k := ⟨_, rfl⟩
    have EK := Lib.hid ek
    have HS := Lib.hid (fun h => decAt_step HD.out h)
    have hg := HG.out
    have SR := Lib.hid (Src.bytes (w := wr.alloc (.cells #[.int .u8 ((48 + r % 10 : Nat) : Int)] 5)) (tx := 56) Tryd.underlying56 g k c l ek (HO.out.alloc _).cells)
    have BO1 := Lib.hid (Bo.one wr 5 hsz (48 + r % 10))
    have hszA : w.heap.size ≤ (wr.alloc (.cells #[.int .u8 ((48 + r % 10 : Nat) : Int)] 5)).heap.size := by simp; omega
    have hcast : ((48 + r % 10 : Nat) : Int) = 48 + (r : Int) % 10 := by omega
    rw [hcast] at SR BO1 hszA
    rw [ek] at hlr hg ⊢
    have hge : l.length = 0 ↔ k = 0 := by rw [ek]
    have hmod : (0 : Int) ≤ (r : Int) % 10 ∧ (r : Int) % 10 ≤ 9 := by omega
    have HO2 : Hid (Bo wr w.heap.size g k c l) := by rw [ek] at HO; exact HO
    clear ek HO
    by_cases hk0 : k = 0
    · subst hk0
      have hg1 : 1 ≤ gk := by rw [if_pos rfl] at hg; omega
      go_wp2_with (at_builtin; refine wpList_append_bytes (W := wr.alloc (.cells #[.int .u8 (48 + (r : Int) % 10)] 5)) rfl _ _ _ _ rfl 5 (.int .u8 0) Tryd.underlying56 u8Info rfl rfl w.heap.size wr.heap.size 1 1 [48 + r % 10] rfl BO1.out 0 l SR.out (by omega) hszA ?_; intro g6 c6 w6 ho6 hg6 hd6)
      go_roundg (gk - 1)
      case measure => omega
      case rel => exact ⟨(48 + r % 10) :: l, r / 10, g6, c6, by rw [List.length_cons, EK.out]; try go_num, by go_num, by rw [List.length_cons, EK.out]; omega, by unfold Hid; rw [List.length_cons, if_neg (by omega)]; omega, HS.out (.inl (HLEN.out EK.out)), by unfold Hid; rw [List.length_cons, EK.out, Nat.add_comm]; exact ho6, (HB.out.alloc HB.out.size _).grown hg6 hszA (fun k e => by injection e with e; omega)⟩
    · by_cases hr0 : r = 0
      · subst hr0
        have HE := Lib.hid (decAt_end HD.out (fun e => hk0 (hge.1 (by rw [e]; rfl))))
        have hk1 : ((k : Int) == 0) = false := by rw [beq_eq_false_iff_ne]; omega
        have CS := conv_string HO2.out 56 9 5 Tryd.underlying56 Tryd.underlying5 Tryd.underlying9
        rw [HE.out, dec_eq] at CS
        have hneg : ¬ ((n : Int) < 0) := by omega
        go_wp2
        go_ret
        exact ⟨rfl, HB.out⟩
      · have hk1 : ((k : Int) == 0) = false := by rw [beq_eq_false_iff_ne]; omega
        have hr1 : ((r : Int) == 0) = false := by rw [beq_eq_false_iff_ne]; omega
        have hr2 : 1 ≤ r := by omega
        go_wp2_with (at_builtin; refine wpList_append_bytes (W := wr.alloc (.cells #[.int .u8 (48 + (r : Int) % 10)] 5)) rfl _ _ _ _ rfl 5 (.int .u8 0) Tryd.underlying56 u8Info rfl rfl w.heap.size wr.heap.size 1 1 [48 + r % 10] rfl BO1.out k l SR.out (by omega) hszA ?_; intro g6 c6 w6 ho6 hg6 hd6)
        go_roundg (gk - 1)
        case measure => omega
        case rel => exact ⟨(48 + r % 10) :: l, r / 10, g6, c6, by rw [List.length_cons, EK.out]; try go_num, by go_num, by rw [List.length_cons, EK.out]; omega, by unfold Hid; rw [List.length_cons, if_neg (by omega)]; omega, HS.out (.inr hr0), by unfold Hid; rw [List.length_cons, EK.out, Nat.add_comm]; exact ho6, (HB.out.alloc HB.out.size _).grown hg6 hszA (fun k e => by injection e with e; omega)⟩
set_option maxRecDepth 100000 in
set_option maxHeartbeats 1000000 in
theorem FormatInt_any (n : Nat) (w : World) (hn : n < 1000000) (htab : Lib.TabIs Tryd.prog w "internal/strconv.uint64pow10" .u64 Lib.pow10Tab) : Calls Tryd.prog 56 #[.int .i64 (n : Int), .int .i64 10] w fun e w' => e = .returned (.string (dec n)) ∧ Below w.heap.size w w' := by
  have FC := Lib.hid (Tryd.internal_strconv_FormatInt_10 (n : Int) (by omega) (by omega) w htab)
  have HD : Hid (⟨(Lib.itoa (n : Int)).toArray⟩ = dec n) := rfl
  clear htab
  go_enter Tryd.func56, Tryd.ntmps56
  go_wp2_with fail
  refine FC.out.mono ?_
  rintro e w1 ⟨rfl, k, os, hw⟩
  have HB : Hid (Below w.heap.size w w1) := by rw [hw]; exact Lib.below_grow _ _ (Nat.le_refl _) _ _
  clear hw
  go_wp2
  go_ret
  exact ⟨rfl, HB.out⟩
set_option maxRecDepth 100000 in
set_option maxHeartbeats 1000000 in
theorem Decimal_any (n : Nat) (w : World) (hn : n < 1000000) (htab : Lib.TabIs Tryd.prog w "internal/strconv.uint64pow10" .u64 Lib.pow10Tab) : Calls Tryd.prog 37 #[.int .i64 (n : Int)] w fun e w' => e = .returned (.string (dec n)) ∧ Below w.heap.size w w' := by
  have FC := Lib.hid (FormatInt_any n w hn htab)
  clear htab
  go_enter Tryd.func37, Tryd.ntmps37
  go_wp2_with fail
  refine FC.out.mono ?_
  rintro e w1 ⟨rfl, hb⟩
  have HB := Lib.hid hb
  clear hb
  go_wp2
  go_ret
  exact ⟨rfl, HB.out⟩
end Go.Proofs.YthgdikdcbkhgjaaDoor

/- Walk: a turtle's way along a word. Conditions: each step's floats are known (TStep); at most 40 letters. -/
import Derived.Test.YtkldgcgijkfpaaaTuc
import Derived.Test.YtkldgcgijkfpaaaTud
import Derived.Test.YtkldgcgijkfpaaaGw
import Derived.Test.YtkldgcgijkfpaaaCod
import Derived.StillTailTactics
namespace Go.Proofs.Ytkldgcgijkfpaaa
open Go.RowKit
open Num Quick
attribute [local go_sem] run_store_fl run_store_cx

/-- Where a turtle stands: its place, its turn, how many are kept, and the twigs so far. -/
structure TS where
  pos : Nat × Nat
  turn : Nat
  dp : Nat
  bg : List (Nat × Nat)
  en : List (Nat × Nat)
/-- One letter's step: number i. A turtle is kept at the first letter alone, and comes back to the beginning. -/
inductive TStep (t st i : Nat) : UInt8 → TS → TS → Prop
  | move {b : UInt8} {p p' : Nat × Nat} {x d a c u v : Nat} {B E : List (Nat × Nat)} (hb : b = 70 ∨ b = 71) (hph : Trn.phW x = some (a, c)) (hu : floatBits .mul .f32 a st = some u) (hv : floatBits .mul .f32 c st = some v) (h1 : floatBits .add .f32 p.1 u = some p'.1) (h2 : floatBits .add .f32 p.2 v = some p'.2) : TStep t st i b ⟨p, x, d, B, E⟩ ⟨p', x, d, B ++ [p], E ++ [p']⟩
  | plus {p : Nat × Nat} {x y d : Nat} {B E : List (Nat × Nat)} (h : floatBits .add .f32 x t = some y) : TStep t st i 43 ⟨p, x, d, B, E⟩ ⟨p, y, d, B, E⟩
  | minus {p : Nat × Nat} {x y d : Nat} {B E : List (Nat × Nat)} (h : floatBits .sub .f32 x t = some y) : TStep t st i 45 ⟨p, x, d, B, E⟩ ⟨p, y, d, B, E⟩
  | push {B E : List (Nat × Nat)} (h : i = 0) : TStep t st i 91 ⟨(0, 0), 0, 0, B, E⟩ ⟨(0, 0), 0, 1, B, E⟩
  | pop {p : Nat × Nat} {x : Nat} {B E : List (Nat × Nat)} : TStep t st i 93 ⟨p, x, 1, B, E⟩ ⟨(0, 0), 0, 0, B, E⟩
  | other {S : TS} : TStep t st i 88 S S
/-- A turtle's way along a word. -/
structure TRun (s : ByteArray) (t st : Nat) (S : Nat → TS) : Prop where
  zero : S 0 = ⟨(0, 0), 0, 0, [], []⟩
  step : ∀ i (h : i < s.size), TStep t st i s[i] (S i) (S (i + 1))
  done : (S s.size).dp = 0
theorem TStep.len {t st i : Nat} {b : UInt8} {S S' : TS} (h : TStep t st i b S S') (he : S.bg.length = S.en.length) (hl : S.bg.length ≤ i) : S'.bg.length = S'.en.length ∧ S'.bg.length ≤ i + 1 := by
  cases h with
  | move => exact ⟨by show (_ ++ [_] : List (Nat × Nat)).length = (_ ++ [_] : List (Nat × Nat)).length; rw [List.length_append, List.length_append]; exact congrArg (· + 1) he, by show (_ ++ [_] : List (Nat × Nat)).length ≤ _; rw [List.length_append]; exact Nat.succ_le_succ hl⟩
  | _ => exact ⟨he, Nat.le_succ_of_le hl⟩
theorem TRun.len {s : ByteArray} {t st : Nat} {S : Nat → TS} (h : TRun s t st S) : ∀ i, i ≤ s.size → (S i).bg.length = (S i).en.length ∧ (S i).bg.length ≤ i
  | 0, _ => by rw [h.zero]; exact ⟨rfl, Nat.le_refl _⟩
  | i + 1, hi => by
    obtain ⟨a, b⟩ := TRun.len h i (by omega)
    exact (h.step i (by omega)).len a b
theorem ltr_ok {s : ByteArray} (h : ∀ i (hi : i < s.size), okN s[i].toNat = true) : okTo s s.size = true := by
  have : ∀ k, k ≤ s.size → okTo s k = true := by
    intro k
    induction k with
    | zero => exact fun _ => okTo_zero s
    | succ k ih =>
      intro hk
      rw [okTo_succ s k (by omega), ih (by omega), h k (by omega)]
      rfl
  exact this _ (Nat.le_refl _)
theorem TStep.ok {t st i : Nat} {b : UInt8} {S S' : TS} (h : TStep t st i b S S') : okN b.toNat = true := by
  cases h with
  | move hb => rcases hb with rfl | rfl <;> decide
  | _ => decide
theorem tsub_w {a1 a2 b1 b2 u v : Nat} (h1 : floatBits .sub .f32 b1 a1 = some u) (h2 : floatBits .sub .f32 b2 a2 = some v) (w : World) : Calls Try.prog 51 #[.complex .f32 b1 b2, .complex .f32 a1 a2] w fun e w' => e = .returned (.complex .f32 u v) ∧ w' = w := by
  have q1 := r32 h1
  have q2 := r32 h2
  go_enter Try.func51, Try.ntmps51
  go_wp2
  go_ret
  exact ⟨rfl, rfl⟩
theorem tadd_w {a1 a2 b1 b2 u v : Nat} (h1 : floatBits .add .f32 b1 a1 = some u) (h2 : floatBits .add .f32 b2 a2 = some v) (w : World) : Calls Try.prog 41 #[.complex .f32 b1 b2, .complex .f32 a1 a2] w fun e w' => e = .returned (.complex .f32 u v) ∧ w' = w := by
  have q1 := r32 h1
  have q2 := r32 h2
  go_enter Try.func41, Try.ntmps41
  go_wp2
  go_ret
  exact ⟨rfl, rfl⟩
theorem tscale_w {a1 a2 p u v : Nat} (h1 : floatBits .mul .f32 a1 p = some u) (h2 : floatBits .mul .f32 a2 p = some v) (w : World) : Calls Try.prog 43 #[.complex .f32 a1 a2, .float .f32 p] w fun e w' => e = .returned (.complex .f32 u v) ∧ w' = w := by
  have q1 := r32 h1
  have q2 := r32 h2
  go_enter Try.func43, Try.ntmps43
  go_wp2
  go_ret
  exact ⟨rfl, rfl⟩
def ks (d : Nat) : List Value := if d = 0 then [] else [.complex .f32 0 0, .float .f32 0]
theorem tInfo : (Try.prog.info? 90).map (fun i => (i.zero.map Value.cells, i.size, i.bytes)) = some (some #[.complex .f32 0 0, .float .f32 0], 2, 12) := by kernel_rfl
/-- What a turtle's walk holds in memory: its own block, both rows of twigs, the kept one. -/
structure TInv (w : World) (i : Nat) (Z : TS) (qa qb d ga ca gb cb gk ck : Nat) (wr : World) : Prop where
  blk : Blk wr w.heap.size 90 #[.complex .f32 Z.pos.1 Z.pos.2, .float .f32 Z.turn]
  oa : wr.ownsRow w.heap.size 37 1 (.slice (some ⟨ga, 0, none⟩) qa ca) qa (Z.bg.map cxv)
  ob : wr.ownsRow w.heap.size 37 1 (.slice (some ⟨gb, 0, none⟩) qb cb) qb (Z.en.map cxv)
  dis : Dis (.slice (some ⟨ga, 0, none⟩) qa ca) (.slice (some ⟨gb, 0, none⟩) qb cb)
  ok : d = 1 ∨ i = 0 → wr.ownsRow (w.heap.size + 1) 90 2 (.slice (some ⟨gk, 0, none⟩) d ck) d (ks d)
  dd : Z.dp = d
  d1 : d ≤ 1
  low : Below w.heap.size w wr
theorem TInv.next {w wr : World} {i : Nat} {Z : TS} {qa qb d ga ca gb cb gk ck : Nat} (T : TInv w i Z qa qb d ga ca gb cb gk ck wr) : TInv w (i + 1) Z qa qb d ga ca gb cb gk ck wr :=
  { T with ok := fun h => T.ok (h.elim .inl (fun e => by omega)) }
theorem slice_own {g n c : Nat} : (Value.slice (some ⟨g, 0, none⟩) n c).ownBlock = some g := by simp [Value.ownBlock]
theorem TInv.big {w wr : World} {i : Nat} {Z : TS} {qa qb d ga ca gb cb gk ck : Nat} (T : TInv w i Z qa qb d ga ca gb cb gk ck wr) : w.heap.size < wr.heap.size := T.blk.lt
theorem TInv.appA {w wr w9 : World} {i : Nat} {p z : Nat × Nat} {x dp qa qb d ga ca gb cb gk ck g9 c9 : Nat} {B E : List (Nat × Nat)} (T : TInv w i ⟨p, x, dp, B, E⟩ qa qb d ga ca gb cb gk ck wr)
    (ho : w9.ownsRow w.heap.size 37 1 (.slice (some ⟨g9, 0, none⟩) (qa + 1) c9) (qa + 1) (B.map cxv ++ [.complex .f32 z.1 z.2])) (hg : wr.grownBy w9 (Value.slice (some ⟨ga, 0, none⟩) qa ca).ownBlock)
    (hd : ∀ v : Value, Old wr.heap.size v → Dis (.slice (some ⟨ga, 0, none⟩) qa ca) v → Dis (.slice (some ⟨g9, 0, none⟩) (qa + 1) c9) v) : TInv w i ⟨p, x, dp, B ++ [z], E⟩ (qa + 1) qb d g9 c9 gb cb gk ck w9 where
  blk := T.blk.grown hg (own_blk_ne T.oa T.blk (by decide))
  oa := by rw [List.map_append, List.map_cons, List.map_nil]; exact ho
  ob := own_kept T.ob hg T.dis.symm
  dis := hd _ (Old.own T.ob) T.dis
  ok := fun h => own_kept (T.ok h) hg (Dis.types (T.ok h) T.oa (by decide))
  dd := T.dd
  d1 := T.d1
  low := T.low.grown hg T.low.size (fun k e => (T.oa.lt k e).1)
theorem TInv.appB {w wr w9 : World} {i : Nat} {p z : Nat × Nat} {x dp qa qb d ga ca gb cb gk ck g9 c9 : Nat} {B E : List (Nat × Nat)} (T : TInv w i ⟨p, x, dp, B, E⟩ qa qb d ga ca gb cb gk ck wr)
    (ho : w9.ownsRow w.heap.size 37 1 (.slice (some ⟨g9, 0, none⟩) (qb + 1) c9) (qb + 1) (E.map cxv ++ [.complex .f32 z.1 z.2])) (hg : wr.grownBy w9 (Value.slice (some ⟨gb, 0, none⟩) qb cb).ownBlock)
    (hd : ∀ v : Value, Old wr.heap.size v → Dis (.slice (some ⟨gb, 0, none⟩) qb cb) v → Dis (.slice (some ⟨g9, 0, none⟩) (qb + 1) c9) v) : TInv w i ⟨p, x, dp, B, E ++ [z]⟩ qa (qb + 1) d ga ca g9 c9 gk ck w9 where
  blk := T.blk.grown hg (own_blk_ne T.ob T.blk (by decide))
  ob := by rw [List.map_append, List.map_cons, List.map_nil]; exact ho
  oa := own_kept T.oa hg T.dis
  dis := (hd _ (Old.own T.oa) T.dis.symm).symm
  ok := fun h => own_kept (T.ok h) hg (Dis.types (T.ok h) T.ob (by decide))
  dd := T.dd
  d1 := T.d1
  low := T.low.grown hg T.low.size (fun k e => (T.ob.lt k e).1)
/-- A write into the turtle's own block. -/
theorem TInv.blkSet {w wr w9 : World} {i : Nat} {p p' : Nat × Nat} {x x' dp qa qb d ga ca gb cb gk ck : Nat} {B E : List (Nat × Nat)} (T : TInv w i ⟨p, x, dp, B, E⟩ qa qb d ga ca gb cb gk ck wr)
    (hb : Blk w9 w.heap.size 90 #[.complex .f32 p'.1 p'.2, .float .f32 x']) (hg : wr.grownBy w9 (some w.heap.size)) : TInv w i ⟨p', x', dp, B, E⟩ qa qb d ga ca gb cb gk ck w9 where
  blk := hb
  oa := own_grown' T.oa hg (own_blk_ne T.oa T.blk (by decide))
  ob := own_grown' T.ob hg (own_blk_ne T.ob T.blk (by decide))
  dis := T.dis
  ok := fun h => own_grown' (T.ok h) hg (fun e => by have := ((T.ok h).lt _ e.symm).1; omega)
  dd := T.dd
  d1 := T.d1
  low := T.low.grown hg T.low.size (fun k e => by injection e with e; omega)
theorem tInfo_ex : ∃ i z, Try.prog.info? 90 = some i ∧ i.zero = some z ∧ i.size = 2 ∧ i.bytes = 12 ∧ z.cells.size = 2 := by
  have h := tInfo
  cases e : Try.prog.info? 90 with
  | none => rw [e] at h; cases h
  | some i =>
    rw [e] at h
    simp only [Option.map_some, Option.some.injEq, Prod.mk.injEq] at h
    obtain ⟨h1, h2, h3⟩ := h
    cases ez : i.zero with
    | none => rw [ez] at h1; cases h1
    | some z =>
      rw [ez] at h1
      simp only [Option.map_some, Option.some.injEq] at h1
      exact ⟨i, z, rfl, ez, h2, h3, by rw [h1]; rfl⟩
theorem two_new (w : World) (t : TypeId) (a b : Value) : ∀ j u, [a, b][j]? = some u → (w.alloc (.cells #[a, b] t)).cell? ((⟨w.heap.size, 0, none⟩ : Addr).add j) = some u := fun j u hj => by
  have h := (Blk.new w t #[a, b]).cell j
  have e : (⟨w.heap.size, 0, none⟩ : Addr).add j = ⟨w.heap.size, j, none⟩ := by
    unfold Addr.add
    split
    · rename_i h0; subst h0; rfl
    · simp
  rw [e, h]
  simpa using hj
theorem TInv.push {w wr w9 : World} {p : Nat × Nat} {x dp qa qb ga ca gb cb gk ck g9 c9 : Nat} {B E : List (Nat × Nat)} (T : TInv w 0 ⟨p, x, dp, B, E⟩ qa qb 0 ga ca gb cb gk ck wr) (o : Obj)
    (ho : w9.ownsRow (w.heap.size + 1) 90 2 (.slice (some ⟨g9, 0, none⟩) 1 c9) 1 (ks 1)) (hg : (wr.alloc o).grownBy w9 (Value.slice (some ⟨gk, 0, none⟩) 0 ck).ownBlock) : TInv w 1 ⟨p, x, 1, B, E⟩ qa qb 1 ga ca gb cb g9 c9 w9 where
  blk := (T.blk.alloc o).grown hg (fun e => by have := ((T.ok (.inr rfl)).lt _ e.symm).1; omega)
  oa := own_kept (T.oa.alloc o) hg (Dis.types T.oa (T.ok (.inr rfl)) (by decide))
  ob := own_kept (T.ob.alloc o) hg (Dis.types T.ob (T.ok (.inr rfl)) (by decide))
  dis := T.dis
  ok := fun _ => ho
  dd := rfl
  d1 := Nat.le_refl _
  low := (T.low.alloc T.low.size o).grown hg (by have := T.low.size; simp; omega) (fun k e => by have := ((T.ok (.inr rfl)).lt _ e).1; omega)
theorem TInv.pop {w wr w9 : World} {i : Nat} {p : Nat × Nat} {x dp qa qb ga ca gb cb gk ck : Nat} {B E : List (Nat × Nat)} (T : TInv w i ⟨p, x, dp, B, E⟩ qa qb 1 ga ca gb cb gk ck wr)
    (hb : Blk w9 w.heap.size 90 #[.complex .f32 0 0, .float .f32 0]) (hg : wr.grownBy w9 (some w.heap.size)) : TInv w (i + 1) ⟨(0, 0), 0, 0, B, E⟩ qa qb 0 ga ca gb cb gk ck w9 where
  blk := hb
  oa := own_grown' T.oa hg (own_blk_ne T.oa T.blk (by decide))
  ob := own_grown' T.ob hg (own_blk_ne T.ob T.blk (by decide))
  dis := T.dis
  ok := fun h => by rcases h with h | h <;> omega
  dd := rfl
  d1 := by omega
  low := T.low.grown hg T.low.size (fun k e => by injection e with e; omega)
theorem TInv.kept {w wr : World} {i : Nat} {Z : TS} {qa qb ga ca gb cb gk ck : Nat} (T : TInv w i Z qa qb 1 ga ca gb cb gk ck wr) : wr.rangeAt gk 0 [.complex .f32 0 0, .float .f32 0] := fun j v hj => by
  have h := (Rd.own (T.ok (.inl rfl))).2 (by omega)
  obtain ⟨b, off, e, _, hc⟩ := h
  injection e with e
  injection e with e1 e2
  subst e1 e2
  exact hc j v hj
theorem TInv.drew {w wr : World} {i : Nat} {Z : TS} {qa qb d ga ca gb cb gk ck : Nat} (T : TInv w i Z qa qb d ga ca gb cb gk ck wr) : TInv w i Z qa qb d ga ca gb cb gk ck wr.drew where
  blk := T.blk.drew
  oa := T.oa
  ob := T.ob
  dis := T.dis
  ok := T.ok
  dd := T.dd
  d1 := T.d1
  low := T.low.drew
set_option maxRecDepth 100000 in
set_option maxHeartbeats 8000000 in
theorem turtleTwigs_ok {B : Rat} (s : ByteArray) (t st most : Nat) (S : Nat → TS) (w : World) (hs : s.size ≤ 40) (hR : TRun s t st S) (ht : Fl .f32 t) (hst : Fl .f32 st) (hm : (S s.size).en.length ≤ most) (hm2 : most ≤ 1000)
    (hB : ∀ z ∈ (S s.size).bg, Cb B z) (hE : ∀ z ∈ (S s.size).en, Cb B z) :
    Calls Try.prog 31 #[.string s, .float .f32 t, .float .f32 st, .int .i64 (most : Int)] w fun e w' => ∃ (ga ca gb cb q : Nat), q = (S s.size).en.length ∧ e = .returned (.tuple #[.slice (some ⟨ga, 0, none⟩) q ca, .slice (some ⟨gb, 0, none⟩) q cb, .bool true]) ∧
      w'.ownsRow w.heap.size 37 1 (.slice (some ⟨ga, 0, none⟩) q ca) q ((S s.size).bg.map cxv) ∧ w'.ownsRow w.heap.size 37 1 (.slice (some ⟨gb, 0, none⟩) q cb) q ((S s.size).en.map cxv) ∧ Dis (.slice (some ⟨ga, 0, none⟩) q ca) (.slice (some ⟨gb, 0, none⟩) q cb) ∧ Below w.heap.size w w' := by
  have IW := IsWord_any s w (by unfold maxLen; omega)
  rw [ltr_ok (fun i hi => (hR.step i hi).ok), show decide (s.size ≤ 4000) = true by simp; omega] at IW
  have IWH := Lib.hid IW
  have F1 := Lib.hid (fun w => isFinite_num ht w)
  have F2 := Lib.hid (fun w => isFinite_num hst w)
  clear IW
  go_enter Try.func31, Try.ntmps31
  go_wp2_with fail
  refine IWH.out.mono ?_
  rintro e w1 ⟨rfl, hw1⟩
  obtain rfl := hw1.symm
  go_wp2_with fail
  refine (F1.out _).mono ?_
  rintro e w1 ⟨rfl, hw1⟩
  obtain rfl := hw1.symm
  go_wp2_with fail
  refine (F2.out _).mono ?_
  rintro e w1 ⟨rfl, hw1⟩
  obtain rfl := hw1.symm
  obtain ⟨v, ev⟩ : ∃ v, v = (((w.alloc (.cells #[.complex .f32 0 0, .float .f32 0] 90)).alloc (.cells #[] 90)).alloc (.cells #[] 37)).alloc (.cells #[] 37) := ⟨_, rfl⟩
  have T0 : Hid (TInv w 0 (S 0) 0 0 0 (w.heap.size + 1 + 1) 0 (w.heap.size + 1 + 1 + 1) 0 (w.heap.size + 1) 0 v) := by
    rw [hR.zero, ev]
    exact Lib.hid {
      blk := ((Blk.new w _ _).alloc _).alloc _ |>.alloc _
      oa := own_base ((((Blk.at_ ((w.alloc _).alloc _) 37 #[] (g := w.heap.size + 1 + 1) (by simp)).alloc _).own (n := 0) (size := 1) (Nat.le_refl _) rfl (by unfold maxLen; omega))) (by omega)
      ob := own_base ((Blk.at_ (((w.alloc _).alloc _).alloc _) 37 #[] (g := w.heap.size + 1 + 1 + 1) (by simp)).own (n := 0) (size := 1) (Nat.le_refl _) rfl (by unfold maxLen; omega)) (by omega)
      dis := fun g h1 h2 => by simp [Value.ownBlock] at h1 h2; omega
      ok := fun _ => (((Blk.at_ (w.alloc _) 90 #[] (g := w.heap.size + 1) (by simp)).alloc _).alloc _).own (n := 0) (size := 2) (Nat.le_refl _) rfl (by unfold maxLen; omega)
      dd := rfl
      d1 := by omega
      low := (((Below.refl _ _).alloc (Nat.le_refl _) _).alloc (by simp) _).alloc (by simp; omega) _ |>.alloc (by simp; omega) _ }
  have EV := Lib.hid ev
  clear ev IWH F1 F2
  go_wp2
  rw [← EV.out]
  clear EV
  go_loopw [12, 13, 14, 35] (fun sk sa sb si wr => ∃ (i qa d ga ca gb cb gk ck : Nat), si = .int .i64 (i : Int) ∧ i ≤ s.size ∧ sk = .slice (some ⟨gk, 0, none⟩) d ck ∧ sa = .slice (some ⟨ga, 0, none⟩) qa ca ∧ sb = .slice (some ⟨gb, 0, none⟩) qa cb ∧ Hid (TInv w i (S i) qa qa d ga ca gb cb gk ck wr)) (fun _ _ _ si _ => s.size - (intOf si).toNat)
  case atStart => exact ⟨0, 0, 0, _, _, _, _, _, _, rfl, Nat.zero_le _, rfl, rfl, rfl, T0⟩
  case round =>
    clear T0
    obtain ⟨i, qa, d, ga, ca, gb, cb, gk, ck, rfl, hi, rfl, rfl, rfl, T1⟩ := hrel
    by_cases hlt : i < s.size
    · have hst := hR.step i hlt
      have hln := (hR.len i hi)
      have hii : (i : Int) < (s.size : Int) := by omega
      obtain ⟨Z, eZ⟩ : ∃ Z, S i = Z := ⟨_, rfl⟩
      obtain ⟨Y, eY⟩ : ∃ Z, S (i + 1) = Z := ⟨_, rfl⟩
      rw [eZ] at T1 hst hln
      rw [eY] at hst
      have EY := Lib.hid eY
      obtain ⟨b, eb⟩ : ∃ b, s[i] = b := ⟨_, rfl⟩
      have hbn : s[i].toNat = b.toNat := by rw [eb]
      rw [eb] at hst
      clear eZ eY eb
      cases hst with
      | @move _ p p' x d' a c u v B E hb hph hu hv h1 h2 =>
        obtain rfl : d' = d := T1.out.dd
        obtain ⟨y, hy, hpc⟩ := phasor_turn hph
        have k1 := rWide hy
        have PC := Lib.hid hpc
        have SC := Lib.hid (fun w => tscale_w hu hv w)
        have AD := Lib.hid (fun w => tadd_w h1 h2 w)
        have hq : B.length = qa := by have := T1.out.oa.1; simpa using this
        have hq40 : qa ≤ 40 := by have := hln.2; dsimp only at this; omega
        have z0 := T1.out.blk.cell 0
        have z1 := T1.out.blk.cell 1
        clear hph hu hv h1 h2 hy hpc hq hln
        rcases hb with rfl | rfl
        all_goals
          go_wp2_with (first
            | (at_builtin; refine wpList_append_one (P := Try.prog) (W := wr) rfl _ _ _ rfl w.heap.size 37 (.complex .f32 0 0) 8 Try.underlying27 cxInfo rfl (some ⟨ga, 0, none⟩) qa ca (B.map cxv) rfl T1.out.oa (.complex .f32 p.1 p.2) wr.heap.size rfl rfl rfl (by unfold maxLen; omega) (by omega) T1.out.low.size ?_; intro A9 c9 w9 ho9 hg9 hd9)
            | fail)
          obtain ⟨g9, c9', e9, _, _⟩ := ho9.form (by omega)
          rw [e9] at ho9 hd9 ⊢
          have T2 := Lib.hid (T1.out.appA (z := p) ho9 hg9 hd9)
          clear ho9 hg9 hd9 e9 z0 z1 T1
          have z0 := T2.out.blk.cell 0
          have z1 := T2.out.blk.cell 1
          go_still_tail 10, (by kernel_rfl)
          still_call (PC.out _)
          repeat still_step
          still_call (SC.out _)
          repeat still_step
          still_call (AD.out _)
          repeat still_step
          try refine wpStill_nil ?_
          change wpList _ _ _ _ _ w9.drew
          have T3 := Lib.hid T2.out.drew
          clear T2 z0 z1
          generalize w9.drew = w10 at *
          have z0 := T3.out.blk.cell 0
          have z1 := T3.out.blk.cell 1
          have fz := T3.out.blk.frozen 0
          obtain ⟨w11, ew11⟩ : ∃ x, x = w10.setCell ⟨w.heap.size, 0, none⟩ (.complex .f32 p'.1 p'.2) := ⟨_, rfl⟩
          have T4 : Hid (TInv w i ⟨p', x, d', B ++ [p], E⟩ (qa + 1) qa d' g9 c9' gb cb gk ck w11) := by
            rw [ew11]
            exact Lib.hid (T3.out.blkSet (T3.out.blk.set_ 0 _) (grown_set (World.grownBy.refl _ _) rfl _))
          have EW := Lib.hid ew11
          clear ew11
          clear T3
          have z2 := T4.out.blk.cell 0
          rw [EW.out] at z2
          go_wp2_with (first
            | (at_builtin; rw [← EW.out]; refine wpList_append_one (P := Try.prog) (W := w11) rfl _ _ _ rfl w.heap.size 37 (.complex .f32 0 0) 8 Try.underlying27 cxInfo rfl (some ⟨gb, 0, none⟩) qa cb (E.map cxv) rfl T4.out.ob (.complex .f32 p'.1 p'.2) w10.heap.size rfl (by rw [EW.out]; simp) rfl (by unfold maxLen; omega) (by omega) T4.out.low.size ?_; intro A12 c12 w12 ho12 hg12 hd12)
            | fail)
          obtain ⟨g12, c12', e12, _, _⟩ := ho12.form (by omega)
          rw [e12] at ho12 hd12 ⊢
          have T5 := Lib.hid (T4.out.appB (z := p') ho12 hg12 hd12).next
          clear ho12 hg12 hd12 e12 z0 z1 z2 fz T4 EW
          go_wp2
          go_roundw
          case rel => exact ⟨i + 1, qa + 1, d', g9, c9', g12, c12', gk, ck, by go_num, by omega, rfl, rfl, rfl, by rw [EY.out]; exact T5⟩
          case measure => simp [intOf]; omega
      | @plus p x y d' B E h =>
        obtain rfl : d' = d := T1.out.dd
        have k1 := r32 h
        have z0 := T1.out.blk.cell 0
        have z1 := T1.out.blk.cell 1
        have fz := T1.out.blk.frozen 1
        clear h hln
        obtain ⟨w11, ew11⟩ : ∃ x, x = wr.setCell ⟨w.heap.size, 1, none⟩ (.float .f32 y) := ⟨_, rfl⟩
        have T4 : Hid (TInv w (i + 1) ⟨p, y, d', B, E⟩ qa qa d' ga ca gb cb gk ck w11) := by
          rw [ew11]
          exact Lib.hid (T1.out.blkSet (T1.out.blk.set_ 1 _) (grown_set (World.grownBy.refl _ _) rfl _)).next
        have EW := Lib.hid ew11
        clear ew11 T1
        go_wp2
        rw [← EW.out]
        go_roundw
        case rel => exact ⟨i + 1, qa, d', ga, ca, gb, cb, gk, ck, by go_num, by omega, rfl, rfl, rfl, by rw [EY.out]; exact T4⟩
        case measure => simp [intOf]; omega
      | @minus p x y d' B E h =>
        obtain rfl : d' = d := T1.out.dd
        have k1 := r32 h
        have z0 := T1.out.blk.cell 0
        have z1 := T1.out.blk.cell 1
        have fz := T1.out.blk.frozen 1
        clear h hln
        obtain ⟨w11, ew11⟩ : ∃ x, x = wr.setCell ⟨w.heap.size, 1, none⟩ (.float .f32 y) := ⟨_, rfl⟩
        have T4 : Hid (TInv w (i + 1) ⟨p, y, d', B, E⟩ qa qa d' ga ca gb cb gk ck w11) := by
          rw [ew11]
          exact Lib.hid (T1.out.blkSet (T1.out.blk.set_ 1 _) (grown_set (World.grownBy.refl _ _) rfl _)).next
        have EW := Lib.hid ew11
        clear ew11 T1
        go_wp2
        rw [← EW.out]
        go_roundw
        case rel => exact ⟨i + 1, qa, d', ga, ca, gb, cb, gk, ck, by go_num, by omega, rfl, rfl, rfl, by rw [EY.out]; exact T4⟩
        case measure => simp [intOf]; omega
      | @push B E h =>
        subst h
        obtain rfl : 0 = d := T1.out.dd
        obtain ⟨ii, zz, i1, i2, i3, i4, i5⟩ := tInfo_ex
        have HI := Lib.hid (show _ ∧ _ ∧ _ ∧ _ ∧ _ from ⟨i1, i2, i3, i4, i5⟩)
        clear hln i1 i2 i3 i4 i5
        go_wp2_with (first
          | (refine wpList_load_blk rfl _ _ rfl w.heap.size 0 rfl 90 _ T1.out.blk [.complex .f32 0 0, .float .f32 0] rfl _ Try.underlying90 rfl (by kernel_rfl) ?_)
          | (at_builtin; refine wpList_append_own_at (P := Try.prog) _ rfl _ _ _ rfl (w.heap.size + 1) 90 ii zz 2 12 Try.underlying91 HI.out.1 HI.out.2.1 HI.out.2.2.1 HI.out.2.2.2.1 HI.out.2.2.2.2 (by omega) (.slice (some ⟨gk, 0, none⟩) 0 ck) 0 [] rfl ((T1.out.ok (.inr rfl)).alloc _) ⟨wr.heap.size, 0, none⟩ 1 1 [.complex .f32 0 0, .float .f32 0] rfl rfl (two_new _ _ _ _) (by simp [Value.oneCell']) (by unfold maxLen; omega) (by omega) (by have := T1.out.big; simp; omega) ?_; intro v9 w9 ho9 hg9 _ _)
          | fail)
        obtain ⟨g9, c9, rfl, _, _⟩ := ho9.form (by omega)
        have T4 := Lib.hid (T1.out.push _ ho9 hg9)
        clear ho9 hg9 T1
        go_wp2
        go_roundw
        case rel => exact ⟨1, qa, 1, ga, ca, gb, cb, g9, c9, rfl, by omega, rfl, rfl, rfl, by rw [EY.out]; exact T4⟩
        case measure => simp [intOf]; omega
      | @pop p x B E =>
        obtain rfl : 1 = d := T1.out.dd
        clear hln
        go_wp2_with (first
          | (refine wpList_load_mid rfl _ _ rfl gk 0 rfl [.complex .f32 0 0, .float .f32 0] _ T1.out.kept Try.underlying90 rfl (by kernel_rfl) ?_)
          | (refine wpList_store_blk rfl _ _ _ rfl w.heap.size 0 rfl _ rfl [.complex .f32 0 0, .float .f32 0] rfl 90 _ #[.complex .f32 0 0, .float .f32 0] T1.out.blk (by kernel_rfl) (by simp) (by simp [Value.oneCell']) rfl ?_; intro w9 k9 g9)
          | fail)
        have T4 := Lib.hid (T1.out.pop k9 g9)
        clear T1
        try go_wp2
        go_roundw
        case rel => exact ⟨i + 1, qa, 0, ga, ca, gb, cb, gk, ck, by go_num, by omega, rfl, rfl, rfl, by rw [EY.out]; exact T4⟩
        case measure => simp [intOf]; omega
      | other =>
        have T4 := Lib.hid T1.out.next
        clear hln T1
        go_wp2
        go_roundw
        case rel => exact ⟨i + 1, qa, d, ga, ca, gb, cb, gk, ck, by go_num, by omega, rfl, rfl, rfl, by rw [EY.out]; exact T4⟩
        case measure => simp [intOf]; omega
    · obtain rfl : i = s.size := by omega
      have hd0 := hR.done
      have T2 := T1.out
      obtain rfl : d = 0 := by have := T2.dd; omega
      have hle := hR.len s.size (Nat.le_refl _)
      have hqa : (S s.size).en.length = qa := by have := T2.ob.1; simpa using this
      have hqm : (qa : Int) ≤ (most : Int) := by omega
      have hqb : (S s.size).bg.length = qa := by omega
      have ra := Rd.own T2.oa
      have rb := Rd.own T2.ob
      rw [cx_list, hqb] at ra
      rw [cx_list, hqa] at rb
      have A1 := Lib.hid (areFiniteF (fun i => (S s.size).bg.getD i (0, 0)) (some ⟨ga, 0, none⟩) qa ca wr (by omega) (fun k hk => hB _ (by rw [List.getD_eq_getElem?_getD, List.getElem?_eq_getElem (by omega)]; exact List.getElem_mem _)) ra)
      have A2 := Lib.hid (areFiniteF (fun i => (S s.size).en.getD i (0, 0)) (some ⟨gb, 0, none⟩) qa cb wr (by omega) (fun k hk => hE _ (by rw [List.getD_eq_getElem?_getD, List.getElem?_eq_getElem (by omega)]; exact List.getElem_mem _)) rb)
      have HQ := Lib.hid hqa
      clear ra rb T2 hle hqa hqb hm hB hE
      go_wp2_with fail
      refine A1.out.mono ?_
      rintro e w5 ⟨rfl, h5⟩
      obtain rfl := h5.symm
      go_wp2_with fail
      refine A2.out.mono ?_
      rintro e w5 ⟨rfl, h5⟩
      obtain rfl := h5.symm
      go_wp2
      go_ret3
      exact ⟨ga, ca, gb, cb, qa, HQ.out.symm, rfl, T1.out.oa, T1.out.ob, T1.out.dis, T1.out.low⟩
end Go.Proofs.Ytkldgcgijkfpaaa

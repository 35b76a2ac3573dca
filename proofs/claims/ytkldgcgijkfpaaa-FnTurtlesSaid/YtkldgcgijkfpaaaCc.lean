/- Plain law: what the scalar functions on turns compute, in double-precision bits; each number is forced before it goes on. -/
import Derived.Test.YtkldgcgijkfpaaaFk
import Derived.WalkKit
import Derived.WalkLawsBesides
import Derived.Lib.Hide
import Derived.Deep.LoopGhost
namespace Go.Proofs.Ytkldgcgijkfpaaa.Circ
open Go
open Quick

/-- An operation on doubles, and what follows. -/
def opf {α : Type} (op : BinOp) (x y : Nat) (k : Nat → Option α) : Option α := (qbits op .f64 x y).bind fun r => fo r k
theorem opf_some {α : Type} {op : BinOp} {x y : Nat} {k : Nat → Option α} {v : α} (h : opf op x y k = some v) : ∃ r, floatBits op .f64 x y = some r ∧ k r = some v := by
  unfold opf at h
  rw [qbits_eq] at h
  cases e : floatBits op .f64 x y with
  | none => rw [e] at h; cases h
  | some r => rw [e] at h; refine ⟨r, rfl, ?_⟩; rw [← h]; exact (fo_eq r k).symm
/-- What a function gives, and what follows. -/
def af {α : Type} (o : Option Nat) (k : Nat → Option α) : Option α := o.bind fun r => fo r k
theorem af_some {α : Type} {o : Option Nat} {k : Nat → Option α} {v : α} (h : af o k = some v) : ∃ r, o = some r ∧ k r = some v := by
  unfold af at h
  cases o with
  | none => cases h
  | some r => refine ⟨r, rfl, ?_⟩; rw [← h]; exact (fo_eq r k).symm
abbrev fi (n : Int) : Nat := floatOfInt .f64 n
def ge (x y : Nat) : Bool := match qorder .f64 x y with | some .gt => true | some .eq => true | _ => false
def lt (x y : Nat) : Bool := match qorder .f64 x y with | some .lt => true | _ => false
def gt (x y : Nat) : Bool := match qorder .f64 x y with | some .gt => true | _ => false
theorem ge_eq (x y : Nat) : ge x y = (FloatKind.f64.format.order x y == some .gt || FloatKind.f64.format.order x y == some .eq) := by
  unfold ge; rw [qorder_eq]; rcases FloatKind.f64.format.order x y with _ | (_ | _ | _) <;> rfl
theorem lt_eq (x y : Nat) : lt x y = (FloatKind.f64.format.order x y == some .lt) := by
  unfold lt; rw [qorder_eq]; rcases FloatKind.f64.format.order x y with _ | (_ | _ | _) <;> rfl
theorem gt_eq (x y : Nat) : gt x y = (FloatKind.f64.format.order x y == some .gt) := by
  unfold gt; rw [qorder_eq]; rcases FloatKind.f64.format.order x y with _ | (_ | _ | _) <;> rfl
/-- 0.25, 0.5, 1, a full turn. -/
abbrev quarter : Nat := 4598175219545276416
abbrev half : Nat := 4602678819172646912
abbrev one : Nat := 4607182418800017408
abbrev tau : Nat := 4618760256179416344
/-- The turns without whole ones. -/
def fraction (x : Nat) : Option Nat :=
  af ((floatToIntVal .f64 x .i64).map fi) fun m => opf .sub x m fun f => if lt f 0 then opf .add f one some else some f
/-- The sine's sum from place j down. -/
def hor (u : Nat) : Nat → Nat → Option Nat
  | 0, p => some p
  | j + 1, p => opf .mul u p fun a => opf .quo a (fi (2 * ((j + 1 : Nat) : Int) * (2 * ((j + 1 : Nat) : Int) + 1))) fun b => opf .sub one b fun c => hor u j c
/-- The sign turned. -/
def ng (r : Nat) : Nat := r ^^^ 9223372036854775808
/-- The sine of turns. -/
def sine (x : Nat) : Option Nat :=
  af (fraction x) fun f =>
  af (if ge f half then opf .sub f half some else some f) fun g =>
  af (if gt g quarter then opf .sub half g some else some g) fun g =>
  opf .mul g tau fun z => opf .mul z z fun u => af (hor u 8 one) fun p =>
  opf .mul z p fun r => some (if ge f half then ng r else r)
/-- Without its sign. -/
def absP (x : Nat) : Nat := x &&& 9223372036854775807
/-- The quarters of a fraction of turns. -/
def turnsLeft : Nat → Nat → Nat → Option (Nat × Nat)
  | 0, f, q => if ge f quarter then none else some (f, q)
  | n + 1, f, q => if ge f quarter then opf .sub f quarter fun g => turnsLeft n g (q + 1) else some (f, q)
theorem turnsLeft_stop {n f q : Nat} {r : Nat × Nat} (h : turnsLeft n f q = some r) (hg : ge f quarter = false) : r = (f, q) := by
  cases n <;> unfold turnsLeft at h <;> rw [if_neg (by rw [hg]; exact Bool.false_ne_true)] at h <;> exact (Option.some.inj h).symm
theorem turnsLeft_go {n f q : Nat} {r : Nat × Nat} (h : turnsLeft n f q = some r) (hg : ge f quarter = true) : ∃ k g, n = k + 1 ∧ floatBits .sub .f64 f quarter = some g ∧ turnsLeft k g (q + 1) = some r := by
  cases n with
  | zero => unfold turnsLeft at h; rw [if_pos hg] at h; cases h
  | succ k =>
    unfold turnsLeft at h
    rw [if_pos hg] at h
    obtain ⟨g, h1, h2⟩ := opf_some h
    exact ⟨k, g, rfl, h1, h2⟩
/-- A double in single precision, and what follows. -/
def narrow {α : Type} (x : Nat) (k : Nat → Option α) : Option α := af (qnarrow x) k
/-- Cosine and sine, turned by quarters. -/
def turned : Nat → Nat → Nat → Option (Nat × Nat)
  | 0, c, s => narrow c fun a => narrow s fun b => some (a, b)
  | 1, c, s => opf .sub 0 s fun m => narrow m fun a => narrow c fun b => some (a, b)
  | 2, c, s => opf .sub 0 c fun m => opf .sub 0 s fun n => narrow m fun a => narrow n fun b => some (a, b)
  | 3, c, s => opf .sub 0 c fun n => narrow s fun a => narrow n fun b => some (a, b)
  | _, _, _ => none
/-- The phasor of a fraction of turns. -/
def phaseOf (f : Nat) : Option (Nat × Nat) :=
  match turnsLeft 3 f 0 with
  | none => none
  | some (g, q) => opf .sub quarter g fun e => af (sine e) fun c => af (sine g) fun s => turned q c s
/-- What keeps a number of turns from its phasor. -/
def calm (t : Nat) : Bool :=
  (match floatBits .sub .f64 t t with | some d => FloatKind.f64.format.order d 0 == some .eq | none => false) && !ge (absP t) 4841369599423283200
/-- A single in double precision, and what follows. -/
def wide {α : Type} (x : Nat) (k : Nat → Option α) : Option α := af (qwide x) k
/-- The product of two complex numbers. -/
def mulC (a b c d : Nat) : Option (Nat × Nat) :=
  wide a fun a => wide b fun b => wide c fun c => wide d fun d =>
  opf .mul a c fun p => opf .mul b d fun q => opf .sub p q fun u => opf .mul a d fun r => opf .mul b c fun s => opf .add r s fun v =>
  narrow u fun x => narrow v fun y => some (x, y)
/-- The power of a complex number. -/
def powC (a b : Nat) : Option Nat :=
  wide a fun a => wide b fun b => opf .mul a a fun p => opf .mul b b fun q => opf .add p q fun u => narrow u some
/-- The absolute difference. -/
def gap (a b : Nat) : Option Nat := if lt a b then opf .sub b a some else opf .sub a b some
def le (x y : Nat) : Bool := match qorder .f64 x y with | some .lt => true | some .eq => true | _ => false
theorem le_eq (x y : Nat) : le x y = (FloatKind.f64.format.order x y == some .lt || FloatKind.f64.format.order x y == some .eq) := by
  unfold le; rw [qorder_eq]; rcases FloatKind.f64.format.order x y with _ | (_ | _ | _) <;> rfl
/-- Both parts differ by at most a bound. -/
def nearC (a b c d m : Nat) : Option Nat :=
  wide a fun a => wide b fun b => wide c fun c => wide d fun d => af (gap a c) fun p => af (gap b d) fun q => if le p m && le q m then some 1 else none
/-- The place of a number that is turned into its logarithm: halved. -/
def halved : Nat → Nat → Nat → Option (Nat × Nat)
  | 0, x, e => if ge x 4609434218613702656 then none else some (x, e)
  | n + 1, x, e => if ge x 4609434218613702656 then opf .quo x 4611686018427387904 fun y => opf .add e one fun f => halved n y f else some (x, e)
/-- The same, doubled. -/
def doubled : Nat → Nat → Nat → Option (Nat × Nat)
  | 0, x, e => if lt x 4604930618986332160 then none else some (x, e)
  | n + 1, x, e => if lt x 4604930618986332160 then opf .mul x 4611686018427387904 fun y => opf .sub e one fun f => doubled n y f else some (x, e)
/-- The logarithm's sum over odd numbers from 2 * j - 1 down. -/
def oddsL (u : Nat) : Nat → Nat → Option Nat
  | 0, q => some q
  | j + 1, q => opf .quo one (fi (2 * (j : Int) + 1)) fun a => opf .mul u q fun b => opf .add a b fun c => oddsL u j c
/-- The angle's sum. -/
def oddsA (u : Nat) : Nat → Nat → Option Nat
  | 0, q => some q
  | j + 1, q => opf .quo one (fi (2 * (j : Int) + 1)) fun a => opf .mul u q fun b => opf .sub a b fun c => oddsA u j c
theorem halved_stop {n x e : Nat} {r : Nat × Nat} (h : halved n x e = some r) (hg : ge x 4609434218613702656 = false) : r = (x, e) := by
  cases n <;> unfold halved at h <;> rw [if_neg (by rw [hg]; exact Bool.false_ne_true)] at h <;> exact (Option.some.inj h).symm
theorem halved_go {n x e : Nat} {r : Nat × Nat} (h : halved n x e = some r) (hg : ge x 4609434218613702656 = true) : ∃ k y f, n = k + 1 ∧ floatBits .quo .f64 x 4611686018427387904 = some y ∧ floatBits .add .f64 e one = some f ∧ halved k y f = some r := by
  cases n with
  | zero => unfold halved at h; rw [if_pos hg] at h; cases h
  | succ k =>
    unfold halved at h
    rw [if_pos hg] at h
    obtain ⟨y, h1, h2⟩ := opf_some h
    obtain ⟨f, h3, h4⟩ := opf_some h2
    exact ⟨k, y, f, rfl, h1, h3, h4⟩
theorem doubled_stop {n x e : Nat} {r : Nat × Nat} (h : doubled n x e = some r) (hg : lt x 4604930618986332160 = false) : r = (x, e) := by
  cases n <;> unfold doubled at h <;> rw [if_neg (by rw [hg]; exact Bool.false_ne_true)] at h <;> exact (Option.some.inj h).symm
theorem doubled_go {n x e : Nat} {r : Nat × Nat} (h : doubled n x e = some r) (hg : lt x 4604930618986332160 = true) : ∃ k y f, n = k + 1 ∧ floatBits .mul .f64 x 4611686018427387904 = some y ∧ floatBits .sub .f64 e one = some f ∧ doubled k y f = some r := by
  cases n with
  | zero => unfold doubled at h; rw [if_pos hg] at h; cases h
  | succ k =>
    unfold doubled at h
    rw [if_pos hg] at h
    obtain ⟨y, h1, h2⟩ := opf_some h
    obtain ⟨f, h3, h4⟩ := opf_some h2
    exact ⟨k, y, f, rfl, h1, h3, h4⟩
/-- The logarithm behind the scaling. -/
def logTail (z e : Nat) : Option Nat :=
  opf .sub z one fun a => opf .add z one fun b => opf .quo a b fun s => opf .mul s s fun u => af (oddsL u 13 0) fun q =>
  opf .mul s q fun g => opf .mul 4611686018427387904 g fun h => opf .mul e 4604418534313441775 fun k => opf .add h k some
/-- The natural logarithm. -/
def logP (x : Nat) : Option Nat :=
  match halved 20 x 0 with
  | none => none
  | some (y, e) => match doubled 20 y e with
    | none => none
    | some (z, f) => logTail z f
/-- The odd numbers of the sums' loops. -/
theorem odd_steps : ∀ j : Nat, j < 14 → (FloatKind.f64.format.order (fi (2 * (j : Int) - 1)) one == some .gt || FloatKind.f64.format.order (fi (2 * (j : Int) - 1)) one == some .eq) = decide (1 ≤ j) ∧
    (1 ≤ j → floatBits .sub .f64 (fi (2 * (j : Int) - 1)) 4611686018427387904 = some (fi (2 * ((j - 1 : Nat) : Int) - 1))) := by decide +kernel
theorem odd_stepsA : ∀ j : Nat, j < 9 → (FloatKind.f64.format.order (fi (2 * (j : Int) - 1)) one == some .gt || FloatKind.f64.format.order (fi (2 * (j : Int) - 1)) one == some .eq) = decide (1 ≤ j) ∧
    (1 ≤ j → floatBits .sub .f64 (fi (2 * (j : Int) - 1)) 4611686018427387904 = some (fi (2 * ((j - 1 : Nat) : Int) - 1))) := fun j h => odd_steps j (by omega)
/-- A tangent of a quarter of the angle's. -/
def tanHalf : Nat → Nat → Option Nat
  | 0, t => some t
  | n + 1, t => opf .mul t t fun a => opf .add one a fun b => af (FloatKind.f64.format.sqrt b) fun c => opf .add one c fun d => opf .quo t d fun e => tanHalf n e
/-- The angle of the point (x, y), both in double precision without signs, then turned by the signs. -/
def angleP (y x : Nat) (nx ny : Bool) : Option Nat :=
  opf .quo y x fun t0 =>
  af (if gt y x then opf .quo x y some else some t0) fun t =>
  af (tanHalf 3 t) fun t => opf .mul t t fun u => af (oddsA u 8 0) fun p =>
  opf .mul t p fun a => opf .mul 4620693217682128896 a fun b => opf .quo b tau fun c =>
  af (if gt y x then opf .sub quarter c some else some c) fun c =>
  af (if nx then opf .sub half c some else some c) fun c => narrow (if ny then ng c else c) some
end Go.Proofs.Ytkldgcgijkfpaaa.Circ

namespace Go.Proofs.Ytkldgcgijkfpaaa
open Go.RowKit
open Circ

section
variable (w : World)
theorem run64 {op : BinOp} {x y r : Nat} (h : floatBits op .f64 x y = some r) : ∀ w : World, (binOp op 34 (.float .f64 x) (.float .f64 y)).run Try.prog w = .ok (.float .f64 r) w := fun w => run_float_arith w op _ .f64 _ _ _ h
theorem run_int {x : Nat} {n : Int} (h : floatToIntVal .f64 x .i64 = some n) : ∀ w : World, (convert 34 2 (.float .f64 x)).run Try.prog w = .ok (.int .i64 n) w := fun w => run_convert_float_int w _ _ _ _ _ _ (by rw [Try.underlying34]; rfl) Try.underlying2 h
theorem run_wide (n : Int) : ∀ w : World, (convert 2 34 (.int .i64 n)).run Try.prog w = .ok (.float .f64 (fi n)) w := fun w => run_convert_int_float w _ _ _ _ _ (by rw [Try.underlying2]; rfl) Try.underlying34
set_option maxHeartbeats 1000000 in
theorem fraction_calls {x f : Nat} (h : fraction x = some f) : Calls Try.prog 69 #[.float .f64 x] w fun e w' => e = .returned (.float .f64 f) ∧ w' = w := by
  unfold fraction at h
  obtain ⟨m, h1, h⟩ := af_some h
  cases h0 : floatToIntVal .f64 x .i64 with
  | none => rw [h0] at h1; cases h1
  | some n =>
    rw [h0] at h1
    obtain rfl : fi n = m := by simpa using h1
    obtain ⟨g, h2, h⟩ := opf_some h
    have q1 := run_int h0
    have q2 := run_wide n
    have q3 := run64 h2
    clear h0 h1 h2
    by_cases c : lt g 0 = true
    · rw [if_pos c] at h
      obtain ⟨k, h3, h⟩ := opf_some h
      obtain rfl : k = f := by simpa using h
      have q4 := run64 h3
      rw [lt_eq] at c
      clear h3 h
      go_enter Try.func69, Try.ntmps69
      go_wp2
      go_ret
      exact ⟨rfl, rfl⟩
    · rw [if_neg c] at h
      obtain rfl : g = f := by simpa using h
      rw [lt_eq] at c
      clear h
      go_enter Try.func69, Try.ntmps69
      go_wp2
      go_ret
      exact ⟨rfl, rfl⟩

theorem unary_ng (b : Nat) : Op.unary .neg (.float .f64 b) = pure (.float .f64 (ng b)) := rfl
/-- The loop's own numbers. -/
theorem hor_steps : ∀ j : Nat, j < 9 → (FloatKind.f64.format.order (fi j) one == some .gt || FloatKind.f64.format.order (fi j) one == some .eq) = decide (1 ≤ j) ∧
    floatBits .mul .f64 4611686018427387904 (fi j) = some (fi (2 * (j : Int))) ∧ floatBits .add .f64 (fi (2 * (j : Int))) one = some (fi (2 * (j : Int) + 1)) ∧
    floatBits .mul .f64 (fi (2 * (j : Int))) (fi (2 * (j : Int) + 1)) = some (fi (2 * (j : Int) * (2 * (j : Int) + 1))) ∧ (1 ≤ j → floatBits .sub .f64 (fi j) one = some (fi ((j - 1 : Nat) : Int))) := by decide +kernel
theorem cond_some {c : Bool} {op : BinOp} {x y z r : Nat} (h : (if c then opf op x y some else some z) = some r) : (c = true ∧ floatBits op .f64 x y = some r) ∨ (c = false ∧ z = r) := by
  cases c
  · exact .inr ⟨rfl, by simpa using h⟩
  · obtain ⟨q, h1, h2⟩ := opf_some h
    cases h2
    exact .inl ⟨rfl, h1⟩
theorem ge_true {x y : Nat} (h : ge x y = true) : ((FloatKind.f64.format.order x y == some .gt) = true ∧ (FloatKind.f64.format.order x y == some .eq) = false) ∨ ((FloatKind.f64.format.order x y == some .gt) = false ∧ (FloatKind.f64.format.order x y == some .eq) = true) := by
  rw [ge_eq] at h
  cases e : FloatKind.f64.format.order x y with
  | none => rw [e] at h; cases h
  | some o => rw [e] at h; cases o <;> first | (cases h; done) | decide
theorem ge_false {x y : Nat} (h : ge x y = false) : (FloatKind.f64.format.order x y == some .gt) = false ∧ (FloatKind.f64.format.order x y == some .eq) = false := by
  rw [ge_eq] at h
  exact Bool.or_eq_false_iff.1 h
end
end Go.Proofs.Ytkldgcgijkfpaaa

namespace Go.Proofs.Ytkldgcgijkfpaaa
open Go.RowKit
open Circ

attribute [local go_sem] unary_ng
section
variable (w : World)
set_option maxHeartbeats 4000000 in
theorem sine_calls {x r : Nat} (h : sine x = some r) : Calls Try.prog 70 #[.float .f64 x] w fun e w' => e = .returned (.float .f64 r) ∧ w' = w := by
  unfold sine at h
  obtain ⟨f, hf, h1⟩ := af_some h
  obtain ⟨g, hg, h2⟩ := af_some h1
  obtain ⟨g2, hg2, h3⟩ := af_some h2
  obtain ⟨z, hz, h4⟩ := opf_some h3
  obtain ⟨u, hu, h5⟩ := opf_some h4
  obtain ⟨p, hp, h6⟩ := af_some h5
  obtain ⟨v, hv, h7⟩ := opf_some h6
  have FC := fraction_calls w hf
  have qz := run64 hz
  have qu := run64 hu
  have qv := run64 hv
  have HH := Lib.hid hp
  clear hf hz hu hv hp h h1 h2 h3 h4 h5 h6
  have GO : (∃ b1 b2 : Bool, (FloatKind.f64.format.order f half == some .gt) = b1 ∧ (FloatKind.f64.format.order f half == some .eq) = b2 ∧ (b1 || b2) = ge f half) := ⟨_, _, rfl, rfl, (ge_eq _ _).symm⟩
  obtain ⟨b1, b2, e1, e2, e12⟩ := GO
  rcases cond_some hg with ⟨c1, hg1⟩ | ⟨c1, rfl⟩ <;> rcases cond_some hg2 with ⟨c2, hg3⟩ | ⟨c2, rfl⟩ <;> rw [c1] at e12 h7 <;> rw [gt_eq] at c2 <;> simp only [if_true, Bool.false_eq_true, if_false, Option.some.injEq] at h7 <;> subst h7
  all_goals cases b1 <;> cases b2 <;> first | (cases e12; done) | skip
  all_goals
    clear e12
    first | have q1 := run64 hg1 | skip
    first | have q2 := run64 hg3 | skip
    first | clear hg1 | skip
    first | clear hg3 | skip
    clear hg hg2 c1
    go_enter Try.func70, Try.ntmps70
    go_wp2_with (first | (go_at_call 69; refine FC.mono ?_; rintro e w1 ⟨rfl, rfl⟩) | fail)
    go_loopg [7, 8] 8 (fun gk sp sk wr => ∃ (q kk : Nat), sp = .float .f64 q ∧ sk = .float .f64 kk ∧ Hid (kk = fi gk) ∧ gk ≤ 8 ∧ Hid (hor u gk q = some p) ∧ wr = w1)
    case atStart => exact ⟨one, _, rfl, rfl, Lib.hid (by decide +kernel), by omega, HH, rfl⟩
    case round =>
      obtain ⟨q, kk, rfl, rfl, HK, hj, HQ, rfl⟩ := hrel
      obtain ⟨s1, s2, s3, s4, s5⟩ := hor_steps gk (by omega)
      rw [← HK.out] at s1 s2 s5
      generalize fi (2 * (gk : Int)) = k1 at s2 s3 s4
      generalize fi (2 * (gk : Int) + 1) = k2 at s3 s4
      rcases Nat.eq_zero_or_pos gk with hj0 | hj0
      · rw [hj0] at HQ s1
        obtain ⟨s6, s7⟩ := Bool.or_eq_false_iff.1 (s1.trans (by decide))
        obtain rfl : q = p := by simpa [hor] using HQ.out
        clear s1 s2 s3 s4 s5 hj0
        go_wp2
        go_ret
        exact ⟨rfl, rfl⟩
      · obtain ⟨k, hk⟩ : ∃ k, gk = k + 1 := ⟨gk - 1, by omega⟩
        have hq := HQ.out
        rw [hk] at hq
        unfold hor at hq
        rw [← hk] at hq
        obtain ⟨a, ha, hq1⟩ := opf_some hq
        obtain ⟨b, hb, hq2⟩ := opf_some hq1
        obtain ⟨c, hc, hq3⟩ := opf_some hq2
        have h9 := s5 hj0
        have hgk : gk - 1 = k := by omega
        rw [hgk] at h9
        generalize fi (2 * (gk : Int) * (2 * (gk : Int) + 1)) = k3 at s4 hb
        obtain ⟨k4, hk4⟩ : ∃ k4, fi (k : Int) = k4 := ⟨_, rfl⟩
        rw [hk4] at h9
        have r1 := run64 s2
        have r2 := run64 s3
        have r3 := run64 s4
        have r4 := run64 h9
        have r5 := run64 ha
        have r6 := run64 hb
        have r7 := run64 hc
        have HN : Hid (hor u k c = some p ∧ k4 = fi k ∧ gk = k + 1) := Lib.hid ⟨hq3, hk4.symm, hk⟩
        rw [decide_eq_true (show 1 ≤ gk from hj0)] at s1
        have hlt : k < gk := by omega
        clear hq hq1 hq2 hq3 ha hb hc hk4 h9 s2 s3 s4 s5 hk hgk
        rcases ge_true ((ge_eq _ _).trans s1) with ⟨t1, t2⟩ | ⟨t1, t2⟩
        all_goals
          clear s1
          go_wp2
          go_roundg k
          case measure => exact hlt
          case rel => exact ⟨c, k4, rfl, rfl, Lib.hid HN.out.2.1, by omega, Lib.hid HN.out.1, rfl⟩
end
end Go.Proofs.Ytkldgcgijkfpaaa

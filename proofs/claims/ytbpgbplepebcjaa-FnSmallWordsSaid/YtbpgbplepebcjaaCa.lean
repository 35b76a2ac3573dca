/- Plain law: what the scalar functions on turns compute, in double-precision bits; each number is forced before it goes on. -/
import Derived.Test.YtbpgbplepebcjaaFk
namespace Go.Proofs.Ytbpgbplepebcjaa.Circ
open Go
open Quick

/-- An operation on doubles, and what follows. -/
def opf {α : Type} (op : BinOp) (x y : Nat) (k : Nat → Option α) : Option α := (qbits op .f64 x y).bind fun r => fo r k
theorem opf_some {α : Type} {op : BinOp} {x y : Nat} {k : Nat → Option α} {v : α} (h : opf op x y k = some v) : ∃ r, floatBits op .f64 x y = some r ∧ k r = some v := by
  unfold opf at h
  rw [qbits_eq] at h
  cases e : floatBits op .f64 x y with
  | none => rw [e] at h; cases h
  | some r => rw [e] at h; refine ⟨r, rfl, ?_⟩; rw [← h]; exact (fo_eq r k).symm
/-- What a function gives, and what follows. -/
def af {α : Type} (o : Option Nat) (k : Nat → Option α) : Option α := o.bind fun r => fo r k
theorem af_some {α : Type} {o : Option Nat} {k : Nat → Option α} {v : α} (h : af o k = some v) : ∃ r, o = some r ∧ k r = some v := by
  unfold af at h
  cases o with
  | none => cases h
  | some r => refine ⟨r, rfl, ?_⟩; rw [← h]; exact (fo_eq r k).symm
abbrev fi (n : Int) : Nat := floatOfInt .f64 n
def ge (x y : Nat) : Bool := match qorder .f64 x y with | some .gt => true | some .eq => true | _ => false
def lt (x y : Nat) : Bool := match qorder .f64 x y with | some .lt => true | _ => false
def gt (x y : Nat) : Bool := match qorder .f64 x y with | some .gt => true | _ => false
theorem ge_eq (x y : Nat) : ge x y = (FloatKind.f64.format.order x y == some .gt || FloatKind.f64.format.order x y == some .eq) := by
  unfold ge; rw [qorder_eq]; rcases FloatKind.f64.format.order x y with _ | (_ | _ | _) <;> rfl
theorem lt_eq (x y : Nat) : lt x y = (FloatKind.f64.format.order x y == some .lt) := by
  unfold lt; rw [qorder_eq]; rcases FloatKind.f64.format.order x y with _ | (_ | _ | _) <;> rfl
theorem gt_eq (x y : Nat) : gt x y = (FloatKind.f64.format.order x y == some .gt) := by
  unfold gt; rw [qorder_eq]; rcases FloatKind.f64.format.order x y with _ | (_ | _ | _) <;> rfl
/-- 0.25, 0.5, 1, a full turn. -/
abbrev quarter : Nat := 4598175219545276416
abbrev half : Nat := 4602678819172646912
abbrev one : Nat := 4607182418800017408
abbrev tau : Nat := 4618760256179416344
/-- The turns without whole ones. -/
def fraction (x : Nat) : Option Nat :=
  af ((floatToIntVal .f64 x .i64).map fi) fun m => opf .sub x m fun f => if lt f 0 then opf .add f one some else some f
/-- The sine's sum from place j down. -/
def hor (u : Nat) : Nat → Nat → Option Nat
  | 0, p => some p
  | j + 1, p => opf .mul u p fun a => opf .quo a (fi (2 * ((j + 1 : Nat) : Int) * (2 * ((j + 1 : Nat) : Int) + 1))) fun b => opf .sub one b fun c => hor u j c
/-- The sign turned. -/
def ng (r : Nat) : Nat := r ^^^ 9223372036854775808
/-- The sine of turns. -/
def sine (x : Nat) : Option Nat :=
  af (fraction x) fun f =>
  af (if ge f half then opf .sub f half some else some f) fun g =>
  af (if gt g quarter then opf .sub half g some else some g) fun g =>
  opf .mul g tau fun z => opf .mul z z fun u => af (hor u 8 one) fun p =>
  opf .mul z p fun r => some (if ge f half then ng r else r)
/-- Without its sign. -/
def absP (x : Nat) : Nat := x &&& 9223372036854775807
/-- The quarters of a fraction of turns. -/
def turnsLeft : Nat → Nat → Nat → Option (Nat × Nat)
  | 0, f, q => if ge f quarter then none else some (f, q)
  | n + 1, f, q => if ge f quarter then opf .sub f quarter fun g => turnsLeft n g (q + 1) else some (f, q)
theorem turnsLeft_stop {n f q : Nat} {r : Nat × Nat} (h : turnsLeft n f q = some r) (hg : ge f quarter = false) : r = (f, q) := by
  cases n <;> unfold turnsLeft at h <;> rw [if_neg (by rw [hg]; exact Bool.false_ne_true)] at h <;> exact (Option.some.inj h).symm
theorem turnsLeft_go {n f q : Nat} {r : Nat × Nat} (h : turnsLeft n f q = some r) (hg : ge f quarter = true) : ∃ k g, n = k + 1 ∧ floatBits .sub .f64 f quarter = some g ∧ turnsLeft k g (q + 1) = some r := by
  cases n with
  | zero => unfold turnsLeft at h; rw [if_pos hg] at h; cases h
  | succ k =>
    unfold turnsLeft at h
    rw [if_pos hg] at h
    obtain ⟨g, h1, h2⟩ := opf_some h
    exact ⟨k, g, rfl, h1, h2⟩
/-- A double in single precision, and what follows. -/
def narrow {α : Type} (x : Nat) (k : Nat → Option α) : Option α := af (qnarrow x) k
/-- Cosine and sine, turned by quarters. -/
def turned : Nat → Nat → Nat → Option (Nat × Nat)
  | 0, c, s => narrow c fun a => narrow s fun b => some (a, b)
  | 1, c, s => opf .sub 0 s fun m => narrow m fun a => narrow c fun b => some (a, b)
  | 2, c, s => opf .sub 0 c fun m => opf .sub 0 s fun n => narrow m fun a => narrow n fun b => some (a, b)
  | 3, c, s => opf .sub 0 c fun n => narrow s fun a => narrow n fun b => some (a, b)
  | _, _, _ => none
/-- The phasor of a fraction of turns. -/
def phaseOf (f : Nat) : Option (Nat × Nat) :=
  match turnsLeft 3 f 0 with
  | none => none
  | some (g, q) => opf .sub quarter g fun e => af (sine e) fun c => af (sine g) fun s => turned q c s
/-- What keeps a number of turns from its phasor. -/
def calm (t : Nat) : Bool :=
  (match floatBits .sub .f64 t t with | some d => FloatKind.f64.format.order d 0 == some .eq | none => false) && !ge (absP t) 4841369599423283200
/-- A single in double precision, and what follows. -/
def wide {α : Type} (x : Nat) (k : Nat → Option α) : Option α := af (qwide x) k
/-- The product of two complex numbers. -/
def mulC (a b c d : Nat) : Option (Nat × Nat) :=
  wide a fun a => wide b fun b => wide c fun c => wide d fun d =>
  opf .mul a c fun p => opf .mul b d fun q => opf .sub p q fun u => opf .mul a d fun r => opf .mul b c fun s => opf .add r s fun v =>
  narrow u fun x => narrow v fun y => some (x, y)
/-- The power of a complex number. -/
def powC (a b : Nat) : Option Nat :=
  wide a fun a => wide b fun b => opf .mul a a fun p => opf .mul b b fun q => opf .add p q fun u => narrow u some
/-- The absolute difference. -/
def gap (a b : Nat) : Option Nat := if lt a b then opf .sub b a some else opf .sub a b some
def le (x y : Nat) : Bool := match qorder .f64 x y with | some .lt => true | some .eq => true | _ => false
theorem le_eq (x y : Nat) : le x y = (FloatKind.f64.format.order x y == some .lt || FloatKind.f64.format.order x y == some .eq) := by
  unfold le; rw [qorder_eq]; rcases FloatKind.f64.format.order x y with _ | (_ | _ | _) <;> rfl
/-- Both parts differ by at most a bound. -/
def nearC (a b c d m : Nat) : Option Nat :=
  wide a fun a => wide b fun b => wide c fun c => wide d fun d => af (gap a c) fun p => af (gap b d) fun q => if le p m && le q m then some 1 else none
/-- The place of a number that is turned into its logarithm: halved. -/
def halved : Nat → Nat → Nat → Option (Nat × Nat)
  | 0, x, e => if ge x 4609434218613702656 then none else some (x, e)
  | n + 1, x, e => if ge x 4609434218613702656 then opf .quo x 4611686018427387904 fun y => opf .add e one fun f => halved n y f else some (x, e)
/-- The same, doubled. -/
def doubled : Nat → Nat → Nat → Option (Nat × Nat)
  | 0, x, e => if lt x 4604930618986332160 then none else some (x, e)
  | n + 1, x, e => if lt x 4604930618986332160 then opf .mul x 4611686018427387904 fun y => opf .sub e one fun f => doubled n y f else some (x, e)
/-- The logarithm's sum over odd numbers from 2 * j - 1 down. -/
def oddsL (u : Nat) : Nat → Nat → Option Nat
  | 0, q => some q
  | j + 1, q => opf .quo one (fi (2 * (j : Int) + 1)) fun a => opf .mul u q fun b => opf .add a b fun c => oddsL u j c
/-- The angle's sum. -/
def oddsA (u : Nat) : Nat → Nat → Option Nat
  | 0, q => some q
  | j + 1, q => opf .quo one (fi (2 * (j : Int) + 1)) fun a => opf .mul u q fun b => opf .sub a b fun c => oddsA u j c
theorem halved_stop {n x e : Nat} {r : Nat × Nat} (h : halved n x e = some r) (hg : ge x 4609434218613702656 = false) : r = (x, e) := by
  cases n <;> unfold halved at h <;> rw [if_neg (by rw [hg]; exact Bool.false_ne_true)] at h <;> exact (Option.some.inj h).symm
theorem halved_go {n x e : Nat} {r : Nat × Nat} (h : halved n x e = some r) (hg : ge x 4609434218613702656 = true) : ∃ k y f, n = k + 1 ∧ floatBits .quo .f64 x 4611686018427387904 = some y ∧ floatBits .add .f64 e one = some f ∧ halved k y f = some r := by
  cases n with
  | zero => unfold halved at h; rw [if_pos hg] at h; cases h
  | succ k =>
    unfold halved at h
    rw [if_pos hg] at h
    obtain ⟨y, h1, h2⟩ := opf_some h
    obtain ⟨f, h3, h4⟩ := opf_some h2
    exact ⟨k, y, f, rfl, h1, h3, h4⟩
theorem doubled_stop {n x e : Nat} {r : Nat × Nat} (h : doubled n x e = some r) (hg : lt x 4604930618986332160 = false) : r = (x, e) := by
  cases n <;> unfold doubled at h <;> rw [if_neg (by rw [hg]; exact Bool.false_ne_true)] at h <;> exact (Option.some.inj h).symm
theorem doubled_go {n x e : Nat} {r : Nat × Nat} (h : doubled n x e = some r) (hg : lt x 4604930618986332160 = true) : ∃ k y f, n = k + 1 ∧ floatBits .mul .f64 x 4611686018427387904 = some y ∧ floatBits .sub .f64 e one = some f ∧ doubled k y f = some r := by
  cases n with
  | zero => unfold doubled at h; rw [if_pos hg] at h; cases h
  | succ k =>
    unfold doubled at h
    rw [if_pos hg] at h
    obtain ⟨y, h1, h2⟩ := opf_some h
    obtain ⟨f, h3, h4⟩ := opf_some h2
    exact ⟨k, y, f, rfl, h1, h3, h4⟩
/-- The logarithm behind the scaling. -/
def logTail (z e : Nat) : Option Nat :=
  opf .sub z one fun a => opf .add z one fun b => opf .quo a b fun s => opf .mul s s fun u => af (oddsL u 13 0) fun q =>
  opf .mul s q fun g => opf .mul 4611686018427387904 g fun h => opf .mul e 4604418534313441775 fun k => opf .add h k some
/-- The natural logarithm. -/
def logP (x : Nat) : Option Nat :=
  match halved 20 x 0 with
  | none => none
  | some (y, e) => match doubled 20 y e with
    | none => none
    | some (z, f) => logTail z f
/-- The odd numbers of the sums' loops. -/
theorem odd_steps : ∀ j : Nat, j < 14 → (FloatKind.f64.format.order (fi (2 * (j : Int) - 1)) one == some .gt || FloatKind.f64.format.order (fi (2 * (j : Int) - 1)) one == some .eq) = decide (1 ≤ j) ∧
    (1 ≤ j → floatBits .sub .f64 (fi (2 * (j : Int) - 1)) 4611686018427387904 = some (fi (2 * ((j - 1 : Nat) : Int) - 1))) := by decide +kernel
theorem odd_stepsA : ∀ j : Nat, j < 9 → (FloatKind.f64.format.order (fi (2 * (j : Int) - 1)) one == some .gt || FloatKind.f64.format.order (fi (2 * (j : Int) - 1)) one == some .eq) = decide (1 ≤ j) ∧
    (1 ≤ j → floatBits .sub .f64 (fi (2 * (j : Int) - 1)) 4611686018427387904 = some (fi (2 * ((j - 1 : Nat) : Int) - 1))) := fun j h => odd_steps j (by omega)
/-- A tangent of a quarter of the angle's. -/
def tanHalf : Nat → Nat → Option Nat
  | 0, t => some t
  | n + 1, t => opf .mul t t fun a => opf .add one a fun b => af (FloatKind.f64.format.sqrt b) fun c => opf .add one c fun d => opf .quo t d fun e => tanHalf n e
/-- The angle of the point (x, y), both in double precision without signs, then turned by the signs. -/
def angleP (y x : Nat) (nx ny : Bool) : Option Nat :=
  opf .quo y x fun t0 =>
  af (if gt y x then opf .quo x y some else some t0) fun t =>
  af (tanHalf 3 t) fun t => opf .mul t t fun u => af (oddsA u 8 0) fun p =>
  opf .mul t p fun a => opf .mul 4620693217682128896 a fun b => opf .quo b tau fun c =>
  af (if gt y x then opf .sub quarter c some else some c) fun c =>
  af (if nx then opf .sub half c some else some c) fun c => narrow (if ny then ng c else c) some
end Go.Proofs.Ytbpgbplepebcjaa.Circ

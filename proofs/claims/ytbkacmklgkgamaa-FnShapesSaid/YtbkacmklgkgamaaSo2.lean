/- Walks: a number's two bytes appended; the bytes of a shape, by the program and by the reference. Conditions: the shape is valid. -/
import Derived.Test.YtbkacmklgkgamaaPw
import Derived.Test.YtbkacmklgkgamaaSh
import Derived.Laws.Shifts
import Derived.StillTailTactics
import Derived.Deep.RegionLaw
import Derived.Deep.RegionHeld3
namespace Go.Proofs.Ytbkacmklgkgamaa
open Go.RowKit

theorem wrap_u8 {x : Int} (h : 0 ≤ x) (h' : x < 256) : IntKind.u8.wrap x = x := by simp [IntKind.wrap, IntKind.bits, IntKind.signed]; omega
theorem wrap_i64 {x : Int} (h : 0 ≤ x) (h' : x < 9223372036854775808) : IntKind.i64.wrap x = x := by simp [IntKind.wrap, IntKind.bits, IntKind.signed]; omega
section
variable {P : Program}
/-- '[]byte("..")' of a constant: the conversion of the bytes that were just laid. -/
theorem conv_const (w : World) (t e : TypeId) (he : P.underlying t = some (.slice e)) (hb : P.underlying e = some (.int .u8)) (cs : Array Value) (l : List Nat) (hc : cs.toList = bc l) (n : Nat) (hn : l.length = n) (hm : n ≤ maxLen) :
    ∃ v1 c, (convert t t (.slice (some ⟨w.heap.size, 0, none⟩) n n)).run P (w.alloc (.cells cs e)) = .ok (.slice (some ⟨w.heap.size, 0, none⟩) n c) v1 ∧ Bo v1 w.heap.size w.heap.size n c l ∧ Below w.heap.size w v1 ∧ v1.heap.size = w.heap.size + 1 := by
  have hsz : cs.size = n := by rw [← Array.length_toList, hc, bc_len, hn]
  have hnew : (w.alloc (.cells cs e)).heap[w.heap.size]? = some (.cells cs e) := heap_alloc_new w _
  have hsh : (w.alloc (.cells cs e)).shape? w.heap.size = some (e, cs.size) := by
    unfold World.shape?
    rw [hnew]
  have hfr : ∀ n : Nat, (w.alloc (.cells cs e)).freeze ⟨w.heap.size, n, none⟩ 1 = w.alloc (.cells cs e (n, n + 1)) := fun n => by
    have hm : ∀ (a : Array Obj) (x : Obj) (f : Obj → Obj), (a.push x).modify a.size f = a.push (f x) := by
      intro a x f
      apply Array.ext
      · simp
      · intro i h1 h2
        simp only [Array.getElem_modify, Array.getElem_push]
        by_cases h : a.size = i
        · subst h
          simp
        · have hi : i < a.size := by simp at h1; omega
          simp [h, hi]
    unfold World.freeze
    rw [if_neg (by decide)]
    show ({ w.alloc (.cells cs e) with heap := (w.heap.push (.cells cs e)).modify w.heap.size _ } : World) = _
    rw [hm]
    rfl
  refine ⟨w.alloc (.cells cs e (cs.size, cs.size + 1)), n, ?_, ⟨hn, Nat.le_refl _, by simp, Nat.le_refl _, hm, fun j hj => ⟨?_, ?_⟩, fun j u hu => ?_⟩, (Below.refl _ _).alloc (Nat.le_refl _) _, by simp⟩
  · simp [convert, run_underlying he, run_underlying hb, markStringish, hsh]
    exact hfr _
  · rw [World.cell?_alloc_mark, Array.getElem?_eq_getElem (by rw [hsz]; exact hj)]; rfl
  · rw [World.frozen?_alloc_mark]; simp; omega
  · rw [World.cell?_alloc_mark, ← Array.getElem?_toList, hc]; exact hu
theorem wp_shr8 {o : Oper} {a : Act} {w : World} {K : Act → World → Prop} {Q : Exit → Act → World → Prop} {x y : Operand} {t u : TypeId} (ho : o.op = .binOp .shr t x y u) (n : Nat) (hx : a.eval x = .int .i64 (n : Int)) (hy : a.eval y = .int .u64 8)
    (h : K (a.put o.dst (.int .i64 ((n : Int) / 256))) w) : o.wp P a w K Q := by
  unfold Oper.wp execOp
  simp only [ho, hx, hy, eqGuard_shr, binOp_shr, Sem.run_bind, Sem.run_pure, Result.andThen_ok, shift_shr .i64 .u64 (n : Int) 8 (by decide) (by decide)]
  exact h
end
set_option maxRecDepth 100000 in
set_option maxHeartbeats 1000000 in
theorem twoBytes_any (g n c B x : Nat) (l : List Nat) (w : World) (hx : x < 65536) (hn : n ≤ 1048576) (hB : B ≤ w.heap.size) (hbo : Bo w B g n c l) :
    Calls Try.prog 48 #[.slice (some ⟨g, 0, none⟩) n c, .int .i64 (x : Int)] w fun e w' => ∃ g' c', e = .returned (.slice (some ⟨g', 0, none⟩) (n + 2) c') ∧ Bo w' B g' (n + 2) c' (l ++ [x % 256, x / 256]) ∧ w.grownBy w' (some g) ∧ (g' = g ∨ w.heap.size ≤ g') := by
  have HBO1 := Lib.hid (hbo.alloc (.cells #[.int .u8 ((x : Int) % 256), .int .u8 ((x : Int) / 256)] 5))
  have SR := Lib.hid (Src.fresh (P := Try.prog) (w := w) (tx := 22) Try.underlying22 5 #[.int .u8 ((x : Int) % 256), .int .u8 ((x : Int) / 256)] [x % 256, x / 256] 2 rfl (by simp [bc]) w.heap.size rfl)
  have hszA : B ≤ (w.alloc (.cells #[.int .u8 ((x : Int) % 256), .int .u8 ((x : Int) / 256)] 5)).heap.size := by simp; omega
  have e3 : (x : Int) / 256 % 256 = (x : Int) / 256 := by omega
  clear hbo
  go_enter Try.func48, Try.ntmps48
  go_wp2_with (first | (refine wp_shr8 rfl x rfl rfl ?_) | (at_builtin; refine wpList_append_bytes (W := w.alloc (.cells #[.int .u8 ((x : Int) % 256), .int .u8 ((x : Int) / 256)] 5)) rfl _ _ _ _ rfl 5 (.int .u8 0) Try.underlying22 byteInfo rfl rfl B g n c l rfl HBO1.out 2 [x % 256, x / 256] SR.out (by omega) hszA ?_; intro g6 c6 w6 ho6 hg6 hd6) | fail)
  go_ret
  have hz6 := hg6.size
  refine ⟨g6, c6, rfl, ho6, grown_trans' (World.grownBy_alloc w _ _) hg6, ?_⟩
  rcases hd6 with h | h
  · exact .inl h
  · simp at h; omega
end Go.Proofs.Ytbkacmklgkgamaa

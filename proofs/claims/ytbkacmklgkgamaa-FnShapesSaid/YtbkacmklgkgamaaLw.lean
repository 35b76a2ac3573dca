/- Walks: LoadShape, by the program and by the reference; marks on a shape. Condition: the text is shorter than 2^63. -/
import Derived.Test.YtbkacmklgkgamaaLo
import Derived.Test.YtbkacmklgkgamaaLq
namespace Go.Proofs.Ytbkacmklgkgamaa
open Go.RowKit

theorem blk_set4 {w : World} {g : Nat} {t : TypeId} {a b c d : Value} (h : Blk w g t #[a, b, c, d]) (x y z u : Value) :
    Blk ((((w.setCell ⟨g, 0, none⟩ x).setCell ⟨g, 1, none⟩ y).setCell ⟨g, 2, none⟩ z).setCell ⟨g, 3, none⟩ u) g t #[x, y, z, u] ∧ w.grownBy ((((w.setCell ⟨g, 0, none⟩ x).setCell ⟨g, 1, none⟩ y).setCell ⟨g, 2, none⟩ z).setCell ⟨g, 3, none⟩ u) (some g) := by
  constructor
  · have := (((h.set_ 0 x).set_ 1 y).set_ 2 z).set_ 3 u
    simpa using this
  · exact grown_set (grown_set (grown_set (grown_set (World.grownBy.refl w (some g)) rfl x) rfl y) rfl z) rfl u
def toWhole (m : Nat) : Option (Rdd × Nat) → Option Rdd
  | some (x, n) => if n = m then some x else none
  | none => none
theorem lodP_whole {s : List Nat} {a : Option (Rdd × Nat)} (ha : LodP s a) : Lod s (toWhole s.length a) := by
  cases a with
  | none => exact lodP_lod (a := none) ha
  | some x =>
    obtain ⟨x, n⟩ := x
    exact lodP_lod (a := some (x, n)) ha
set_option maxRecDepth 100000 in
set_option maxHeartbeats 2000000 in
theorem implLoadShape_any (s : ByteArray) (w : World) (hs : s.size ≤ maxLen) : Calls Try.prog 9 #[.string s] w (LoadOut s w) := by
  have KV := Lib.hid (Blk.new w 33 #[.string ⟨#[]⟩, .int .i64 0, .int .i64 0, .slice none 0 0])
  have BV : Hid (Below w.heap.size w (w.alloc (.cells #[.string ⟨#[]⟩, .int .i64 0, .int .i64 0, .slice none 0 0] 33))) := (Below.refl _ _).alloc (Nat.le_refl _) _
  have LC := Lib.hid (load_any s (w.alloc (.cells #[.string ⟨#[]⟩, .int .i64 0, .int .i64 0, .slice none 0 0] 33)) hs)
  unfold LoadOut LoadPOut at *
  unfold zeroSh shV at *
  go_enter Try.func9, Try.ntmps9
  go_wp2_with fail
  refine LC.out.mono ?_
  rintro e w1 ⟨r, hr, hb1, hcase⟩
  have HR := Lib.hid (lodP_whole hr)
  have K1 := Lib.hid (KV.out.below hb1 (by simp))
  have B1 := Lib.hid (BV.out.trans (hb1.mono (by simp)))
  have Z1 : Hid (w.heap.size + 1 ≤ w1.heap.size) := by have := hb1.size; simp at this; exact this
  clear hr hb1
  rcases hcase with ⟨hn, rfl⟩ | ⟨x, n, A, c, hn, rfl, ho⟩
  · subst hn
    have K2 := Lib.hid (K1.out.alloc (.cells #[.string ⟨#[]⟩, .int .i64 0, .int .i64 0, .slice none 0 0] 33))
    have B2 := Lib.hid (B1.out.alloc B1.out.size (.cells #[.string ⟨#[]⟩, .int .i64 0, .int .i64 0, .slice none 0 0] 33))
    go_wp2_with (first
      | (refine wpList_store_blk rfl _ _ _ rfl w.heap.size 0 rfl _ rfl [.string ⟨#[]⟩, .int .i64 0, .int .i64 0, .slice none 0 0] rfl 33 _ #[.string ⟨#[]⟩, .int .i64 0, .int .i64 0, .slice none 0 0] K2.out (by kernel_rfl) (by simp) (by simp [Value.oneCell']) rfl ?_; intro w9 k9 g9)
      | fail)
    refine bodyPost_ret (results_row2 rfl _ w9 w.heap.size 33 _ _ rfl k9 Try.underlying33 rfl (by kernel_rfl) _ rfl) rfl ?_
    exact ⟨none, HR.out, B2.out.grown g9 B2.out.size (fun j e => by injection e with e; omega), .inl ⟨rfl, rfl⟩⟩
  · subst hn
    have HO := Lib.hid ho
    clear ho
    have K2 := Lib.hid (K1.out.alloc (.cells #[.string x.nm, .int .i64 (x.W : Int), .int .i64 (x.H : Int), .slice A x.cs.length c] 33))
    have B2 := Lib.hid (B1.out.alloc B1.out.size (.cells #[.string x.nm, .int .i64 (x.W : Int), .int .i64 (x.H : Int), .slice A x.cs.length c] 33))
    have X2 := Lib.hid (Blk.new w1 33 #[.string x.nm, .int .i64 (x.W : Int), .int .i64 (x.H : Int), .slice A x.cs.length c])
    have O2 := Lib.hid (HO.out.alloc (.cells #[.string x.nm, .int .i64 (x.W : Int), .int .i64 (x.H : Int), .slice A x.cs.length c] 33))
    by_cases hx : n = s.size
    · subst hx
      have hns : (!((s.size : Int) == (s.size : Int))) = false := by simp
      have HR2 : Hid (Lod (nums s) (some x)) := by
        have := HR.out
        unfold toWhole at this
        rw [nums_len] at this
        simp only [if_true] at this
        exact this
      clear HR
      go_wp2_with (first
        | (refine wpList_load_blk rfl _ _ rfl w1.heap.size 0 rfl 33 _ X2.out [.string x.nm, .int .i64 (x.W : Int), .int .i64 (x.H : Int), .slice A x.cs.length c] rfl _ Try.underlying33 rfl (by kernel_rfl) ?_)
        | (refine wpList_store_blk rfl _ _ _ rfl w.heap.size 0 rfl _ rfl [.string x.nm, .int .i64 (x.W : Int), .int .i64 (x.H : Int), .slice A x.cs.length c] rfl 33 _ #[.string x.nm, .int .i64 (x.W : Int), .int .i64 (x.H : Int), .slice A x.cs.length c] K2.out (by kernel_rfl) (by simp) (by simp [Value.oneCell']) rfl ?_; intro w9 k9 g9)
        | fail)
      refine bodyPost_ret (results_row2 rfl _ w9 w.heap.size 33 _ _ rfl k9 Try.underlying33 rfl (by kernel_rfl) _ rfl) rfl ?_
      exact ⟨some x, HR2.out, B2.out.grown g9 B2.out.size (fun j e => by injection e with e; omega), .inr ⟨x, A, c, rfl, rfl, own_base (own_grown' O2.out g9 (own_blk_ne O2.out K2.out (by decide))) (by simp)⟩⟩
    · have hns : (!((n : Int) == (s.size : Int))) = true := by simp; omega
      have HR2 : Hid (Lod (nums s) none) := by
        have := HR.out
        unfold toWhole at this
        rw [nums_len] at this
        simp only [if_neg hx] at this
        exact this
      have hx' : ¬ (n : Int) = (s.size : Int) := by omega
      clear HR
      go_wp2_with (first
        | (refine wpList_store_blk rfl _ _ _ rfl w.heap.size 0 rfl _ rfl [.string ⟨#[]⟩, .int .i64 0, .int .i64 0, .slice none 0 0] rfl 33 _ #[.string ⟨#[]⟩, .int .i64 0, .int .i64 0, .slice none 0 0] K2.out (by kernel_rfl) (by simp) (by simp [Value.oneCell']) rfl ?_; intro w9 k9 g9)
        | fail)
      refine bodyPost_ret (results_row2 rfl _ w9 w.heap.size 33 _ _ rfl k9 Try.underlying33 rfl (by kernel_rfl) _ rfl) rfl ?_
      exact ⟨none, HR2.out, B2.out.grown g9 B2.out.size (fun j e => by injection e with e; omega), .inl ⟨rfl, rfl⟩⟩
end Go.Proofs.Ytbkacmklgkgamaa

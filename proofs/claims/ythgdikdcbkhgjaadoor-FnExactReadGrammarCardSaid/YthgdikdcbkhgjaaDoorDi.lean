/- Walks: a grammar read from a text, by the reference's outer function and by the program. Conditions: texts are at most 2^20 bytes long; the library's own size variable holds a number. -/
import Derived.Test.YthgdikdcbkhgjaaDoorDr
import Derived.Test.YthgdikdcbkhgjaaDoorShelf
namespace Go.Proofs.YthgdikdcbkhgjaaDoor
open Go.RowKit

set_option maxRecDepth 100000 in
set_option maxHeartbeats 2000000 in
theorem specRg_any (t : ByteArray) (w : World) (ht : t.size ≤ 1048576) : Calls Tryd.prog 7 #[.string t] w (RgOut t w) := by
  obtain ⟨v, ev⟩ : ∃ v, v = w.alloc (.cells #[.string ⟨#[]⟩, .slice none 0 0] 24) := ⟨_, rfl⟩
  have R0 : Hid (Blk v w.heap.size 24 #[.string ⟨#[]⟩, .slice none 0 0]) := by rw [ev]; exact Blk.new _ _ _
  have B0 : Hid (Below w.heap.size w v) := by rw [ev]; exact (Below.refl _ _).alloc (Nat.le_refl _) _
  have Z0 : Hid (w.heap.size < v.heap.size) := by rw [ev]; unfold Hid; simp
  have EV := Lib.hid ev
  have LC := Lib.hid (l08ReadGrammar_any t v ht)
  clear ev
  go_enter Tryd.func7, Tryd.ntmps7
  go_wp2_with fail
  rw [← EV.out]
  refine LC.out.mono ?_
  rintro e w1 ⟨hb, ho⟩
  have B1 := Lib.hid (B0.out.trans (hb.mono (Nat.le_of_lt Z0.out)))
  have R1 := Lib.hid (R0.out.below hb Z0.out)
  clear hb LC
  rcases ho with ⟨a, rs, A, c, hok, rfl, ho⟩ | ⟨hno, rfl⟩
  · have O1 := Lib.hid (own_base ho (Nat.le_of_lt Z0.out))
    have HOK := Lib.hid hok
    clear ho hok
    go_wp2_with (first
      | (refine wpList_store_blk rfl _ _ _ rfl w.heap.size 0 rfl _ rfl [.string a, .slice A rs.length c] rfl 24 _ #[.string a, .slice A rs.length c] R1.out (by kernel_rfl) (by simp) (by simp [Value.oneCell']) rfl ?_; intro w9 k9 g9)
      | fail)
    refine bodyPost_ret (results_row2 rfl _ w9 w.heap.size 24 _ _ rfl k9 Tryd.underlying24 rfl (by kernel_rfl) _ rfl) rfl ?_
    exact ⟨B1.out.grown g9 B1.out.size (fun j e => by injection e with e; omega), .inl ⟨a, rs, A, c, HOK.out, rfl, own_grown' O1.out g9 (own_blk_ne O1.out R1.out (by decide))⟩⟩
  · have HNO := Lib.hid hno
    clear hno
    go_wp2_with (first
      | (refine wpList_store_blk rfl _ _ _ rfl w.heap.size 0 rfl _ rfl [.string ⟨#[]⟩, .slice none 0 0] rfl 24 _ #[.string ⟨#[]⟩, .slice none 0 0] R1.out (by kernel_rfl) (by simp) (by simp [Value.oneCell']) rfl ?_; intro w9 k9 g9)
      | fail)
    refine bodyPost_ret (results_row2 rfl _ w9 w.heap.size 24 _ _ rfl k9 Tryd.underlying24 rfl (by kernel_rfl) _ rfl) rfl ?_
    exact ⟨B1.out.grown g9 B1.out.size (fun j e => by injection e with e; omega), .inr ⟨HNO.out, rfl⟩⟩
end Go.Proofs.YthgdikdcbkhgjaaDoor

/- Walk: the laws' copies of lists of shapes. Condition: at most 2^20 shapes of at most 2^20 cells. -/
import Derived.Test.YtbkacmklgkgamaaLp
namespace Go.Proofs.Ytbkacmklgkgamaa
open Go.RowKit

theorem shapeInfo : (Try.prog.info? 33).map (fun i => (i.zero, i.size, i.bytes)) = some (some (.agg #[.string ⟨#[]⟩, .int .i64 0, .int .i64 0, .slice none 0 0]), 4, 56) := by kernel_rfl
theorem own_blkS {w : World} {base g n size : Nat} {e : TypeId} {xs : List Value} (h : w.ownsRow base e size (.slice (some ⟨g, 0, none⟩) n n) n xs) : Blk w g e xs.toArray := by
  rcases h.2 with ⟨h', _⟩ | ⟨g', cap, cur, hv, hb, hh, hn, hx, hs, ht⟩
  · simp at h'
  · injection hv with h1 _ h3
    have h1' : g = g' := by simpa using h1
    subst h1'
    subst h3
    have : cur.toList = xs := by rw [← ht, List.take_of_length_le (by rw [Array.length_toList, hs]; exact Nat.le_refl _)]
    unfold Blk
    rw [hh, ← this]
/-- Each shape's cells lie in a row of the call's own. -/
def ShO (w : World) (base : Nat) (l : List Shp) : Prop := ∀ s ∈ l, w.ownsRow base 4 1 (.slice s.A s.cs.length s.c) s.cs.length (s.cs.map bv)
theorem ShO.below {w w' : World} {base : Nat} {l : List Shp} (h : ShO w base l) (hb : Below w.heap.size w w') : ShO w' base l := fun s hs => own_below (h s hs) hb
theorem shCells_snoc (l : List Shp) (s : Shp) : shCells (l ++ [s]) = shCells l ++ s.cells := by
  unfold shCells
  rw [List.flatMap_append]
  simp

end Go.Proofs.Ytbkacmklgkgamaa

/- Walk: the reference's groups of a field. Conditions: the field is valid. -/
import Derived.Test.YtejmpijihmmajaaVd
import Derived.Test.YtejmpijihmmajaaPg
namespace Go.Proofs.Ytejmpijihmmajaa
open Go.RowKit

theorem own_cut {w : World} {base g n m c : Nat} {e : TypeId} {xs : List Value} (h : w.ownsRow base e 1 (.slice (some ⟨g, 0, none⟩) n c) n xs) (hm : m ≤ n) : w.ownsRow base e 1 (.slice (some ⟨g, 0, none⟩) m c) m (xs.take m) := by
  have h1 := h.1
  rcases h.2 with ⟨h', _⟩ | ⟨g', cap, cur, hv, hb, hh, hn, hx, hs, ht⟩
  · simp at h'
  · refine ⟨by rw [List.length_take]; omega, .inr ⟨g', cap, cur, ?_, hb, hh, by omega, hx, hs, ?_⟩⟩
    · simp only [Value.slice.injEq, Option.some.injEq, Addr.mk.injEq, and_true, true_and] at hv ⊢
      exact ⟨hv.1, hv.2⟩
    · rw [← ht, List.take_take]
      congr 1
      omega

theorem own_cap {w : World} {base g n c : Nat} {e : TypeId} {xs : List Value} (h : w.ownsRow base e 1 (.slice (some ⟨g, 0, none⟩) n c) n xs) : n ≤ c := by
  rcases h.2 with ⟨h', _⟩ | ⟨g', cap, cur, hv, hb, hh, hn, hx, hs, ht⟩
  · simp at h'
  · injection hv with _ _ h3
    omega

theorem rep_iv_succ (k : Nat) : (List.replicate (k + 1) (-1 : Int)).map iv = (List.replicate k (-1 : Int)).map iv ++ [.int .i64 (-1)] := by
  rw [List.replicate_succ', List.map_append]; rfl

end Go.Proofs.Ytejmpijihmmajaa

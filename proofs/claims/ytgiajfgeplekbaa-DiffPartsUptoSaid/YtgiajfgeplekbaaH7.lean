/- A row of an own slice, put anew. -/
import Derived.Test.YtgiajfgeplekbaaP3
set_option linter.unusedVariables false
set_option linter.unusedSimpArgs false
namespace Go.Proofs.Ytgiajfgeplekbaa
open Go.RowKit

theorem rowCells_set : ∀ (L : List Rw) (i : Nat) (r : Rw), i < L.length → (((rowCells L).set (i * 3) (.string r.key)).set (i * 3 + 1) (.int .i64 r.stamp)).set (i * 3 + 2) (.string r.val) = rowCells (L.set i r)
  | [], i, r, h => absurd h (Nat.not_lt_zero _)
  | y :: L, 0, r, h => rfl
  | y :: L, i + 1, r, h => by
    have ih := rowCells_set L i r (by simpa using h)
    show (((Value.string y.key :: Value.int .i64 y.stamp :: Value.string y.val :: rowCells L).set ((i + 1) * 3) _).set ((i + 1) * 3 + 1) _).set ((i + 1) * 3 + 2) _ = Value.string y.key :: Value.int .i64 y.stamp :: Value.string y.val :: rowCells (L.set i r)
    rw [show (i + 1) * 3 = i * 3 + 3 by omega]
    simp only [List.set_cons_succ]
    rw [← ih]
/-- An own row, one cell turned. -/
theorem own_put {w : World} {b e k n c g j : Nat} {xs : List Value} (h : w.ownsRow b e k (.slice (some ⟨g, 0, none⟩) n c) n xs) (hj : j < n * k) (u : Value) : (w.setCell ⟨g, j, none⟩ u).ownsRow b e k (.slice (some ⟨g, 0, none⟩) n c) n (xs.set j u) := by
  refine ⟨by rw [List.length_set]; exact h.1, ?_⟩
  rcases h.2 with ⟨h1, _⟩ | ⟨g', cap, cur, hv, hb, hh, h1, h2, h3, h4⟩
  · cases h1
  · injection hv with hv _ hcap
    injection hv with hv
    injection hv with hv _ _
    subst hv hcap
    refine .inr ⟨g, c, cur.setIfInBounds j u, rfl, hb, ?_, h1, h2, by simp [h3], ?_⟩
    · simp only [World.setCell, Array.getElem?_modify, hh, if_true]
      rfl
    · rw [Array.toList_setIfInBounds, ← h4, List.take_set]
theorem own_row {w : World} {b e n c g i : Nat} {L : List Rw} (h : w.ownsRow b e 3 (.slice (some ⟨g, 0, none⟩) n c) n (rowCells L)) (hi : i < n) (hl : i < L.length) (r : Rw) :
    (((w.setCell ⟨g, i * 3, none⟩ (.string r.key)).setCell ⟨g, i * 3 + 1, none⟩ (.int .i64 r.stamp)).setCell ⟨g, i * 3 + 2, none⟩ (.string r.val)).ownsRow b e 3 (.slice (some ⟨g, 0, none⟩) n c) n (rowCells (L.set i r)) := by
  rw [← rowCells_set L i r hl]
  exact own_put (own_put (own_put h (by omega) _) (by omega) _) (by omega) _
end Go.Proofs.Ytgiajfgeplekbaa

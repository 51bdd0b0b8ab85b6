/- The book: spans lent, kept, spoilt. -/
import Derived.Test.YtkjopeiohjkhoaaSv
set_option linter.unusedVariables false
set_option linter.unusedSimpArgs false
namespace Go.Proofs.Ytkjopeiohjkhoaa
open Go.RowKit

def markS : SpanR := ⟨⟨#[109, 97, 114, 107]⟩, ⟨#[]⟩⟩
def LendPost (base : Nat) (w : World) (n : Nat) (l : List SpanR) (e : Ending) (w' : World) : Prop :=
  ∃ (P : Option Addr) (cp : Nat), e = .returned (.slice P n cp) ∧ Below w.heap.size w w' ∧ Rd base 35 w' 2 P (n + 1) cp (sCells (l ++ [markS]))
theorem sCells_snoc (l : List SpanR) (s : SpanR) : sCells l ++ sCells [s] = sCells (l ++ [s]) := by simp [sCells]

set_option maxHeartbeats 2000000 in
theorem LendSpans_calls {base : Nat} {w : World} {A : Option Addr} {n c : Nat} {l : List SpanR} (hr : Rd base 35 w 2 A n c (sCells l)) (hbig : n * 32 ≤ 140737488351232) (hbs : base ≤ w.heap.size) :
    Calls Try.prog 11 #[.slice A n c] w (LendPost base w n l) := by
  have R := Asd.mk hr
  have N := Asd.mk (hr.count (enc := SpanR.enc) (fun _ => rfl) (by omega))
  have BS := Asd.mk hbs
  clear hr hbs
  have h0 : Rd base 35 (w.alloc (.cells #[] 35)) 2 (some ⟨w.heap.size, 0, none⟩) 0 0 [] := Rd.empty_ _ (fun h => by cases h)
  have E0 := Asd.mk h0
  clear h0
  by_cases hn : n = 0
  · subst hn
    have hl : l = [] := List.eq_nil_of_length_eq_zero N.out
    subst hl
    go_enter Try.func11, Try.ntmps11
    go_wp2_with (first
      | (at_builtin; go_loud (refine wpList_append_full (base := base) (n := 0) (c := 0) (m := 0) (xs := []) (ys := []) rfl (.tmp 4) (.tmp 5) 22 rfl elt_span rfl rfl E0.out (R.out.alloc _) (.inr rfl) (span_one []) (by unfold maxLen; omega) (by omega) ?_; intro A1 c1 w1 F1; have B1 := Asd.mk (((Below.refl w.heap.size w).alloc (Nat.le_refl _) (.cells #[] 35)).trans (F1.below.mono (by simp))); have hh := F1.how; have hc1 : c1 = 0 := (by rcases hh with h | h; exact h.2.1; exact absurd h.2.2 (by omega)); subst hc1; have R1 := Asd.mk F1.rd; clear F1 hh))
      | (at_builtin; go_loud (refine wpList_append_full (base := base) (n := 0 + 0) (c := 0) (m := 1) (xs := [] ++ []) (ys := sCells [markS]) rfl (.tmp 7) (.tmp 9) 22 rfl elt_span rfl rfl (R1.out.alloc _) (Rd.new_ rfl rfl) (.inl (by omega)) (span_one _) (by unfold maxLen; omega) (by omega) ?_; intro A2 c2 w2 F2; have B2 := Asd.mk ((B1.out.alloc B1.out.size (.cells #[.string ⟨#[109, 97, 114, 107]⟩, .string ⟨#[]⟩] 35)).trans (F2.below.mono (by have := B1.out.size; simp; omega))); have R2 := Asd.mk F2.rd; have hc2 : 1 ≤ c2 := F2.rd.cap; clear F2)))
    go_ret
    exact ⟨A2, c2, rfl, B2.out, R2.out⟩
  · have hn0 : 0 < n := by omega
    go_enter Try.func11, Try.ntmps11
    go_wp2_with (first
      | (at_builtin; go_loud (refine wpList_append_full (base := base) (n := 0) (c := 0) (m := n) (xs := []) (ys := sCells l) rfl (.tmp 4) (.tmp 5) 22 rfl elt_span rfl rfl E0.out (R.out.alloc _) (.inl (by omega)) (span_one _) (by unfold maxLen; omega) (by omega) ?_; intro A1 c1 w1 F1; have B1 := Asd.mk (((Below.refl w.heap.size w).alloc (Nat.le_refl _) (.cells #[] 35)).trans (F1.below.mono (by simp))); have S1 := Asd.mk F1.below.size; have O1 : Asd (w1.ownsRow (w.alloc (.cells #[] 35)).heap.size 35 2 (.slice A1 n c1) n (sCells l)) := ⟨by have h := (F1.how.resolve_left (fun h => by omega)).1; rw [Nat.zero_add] at h; exact h⟩; clear F1))
      | (at_builtin; go_loud (refine wpList_append_mine (base := base) (own := (w.alloc (.cells #[] 35)).heap.size) (n := n) (m := 1) (v := .slice A1 n c1) (xs := sCells l) (ys := sCells [markS]) rfl (.tmp 7) (.tmp 9) 22 rfl elt_span rfl rfl (O1.out.alloc _) (Rd.new_ rfl rfl) (span_one _) (by unfold maxLen; omega) (by omega) (by have := S1.out; simp at this ⊢; omega) ?_; intro v2 w2 O2' G2'; obtain ⟨A2, c2, rfl, r2⟩ := Rd.of_own (base := base) O2'; have R2 := Asd.mk r2; have B2 := Asd.mk ((B1.out.alloc B1.out.size (.cells #[.string ⟨#[109, 97, 114, 107]⟩, .string ⟨#[]⟩] 35)).grown G2' (by have := B1.out.size; simp; omega) (fun i hi => Nat.le_trans (by simp) (O1.out.lt i hi).1)); have hc2 : n + 1 ≤ c2 := (by have := r2.cap; omega); clear O2' G2' r2)))
    go_ret
    refine ⟨A2, c2, by simp, B2.out, ?_⟩
    have h := R2.out
    rw [sCells_snoc] at h
    exact h
end Go.Proofs.Ytkjopeiohjkhoaa

/- Spans of a table, in plain Lean: what is taken out and what is left. -/
import Derived.Test.YtehfaeafefkngaaTt2
import Derived.Test.YtehfaeafefkngaaTpg
set_option linter.unusedVariables false
set_option linter.unusedSimpArgs false
namespace Go.Proofs.Ytehfaeafefkngaa

theorem klt_pos {l : List Rw} (h : Sorted l) (x : ByteArray) {i : Nat} (hi : i < l.length) : klt l[i].key x ↔ i < pos x l := by
  constructor
  · intro hk
    refine Classical.byContradiction fun hn => ?_
    refine drop_pos x l h l[i] ?_ hk
    exact List.mem_drop_iff_getElem.2 ⟨i - pos x l, by omega, by congr 1; omega⟩
  · intro hlt
    exact take_pos x l h l[i] (List.mem_take_iff_getElem.2 ⟨i, by omega, rfl⟩)
def inSpan (k : ByteArray) (s : SpanR) : Prop := ¬ klt k s.from_ ∧ (s.to_.size = 0 ∨ klt k s.to_)
def dropP (l : List Rw) (s : SpanR) : List Rw := l.take (endsP l s).1 ++ l.drop (endsP l s).2
theorem in_ends {l : List Rw} (h : Sorted l) (s : SpanR) {i : Nat} (hi : i < l.length) : inSpan l[i].key s ↔ (endsP l s).1 ≤ i ∧ i < (endsP l s).2 := by
  unfold inSpan endsP
  rw [klt_pos h, klt_pos h]
  dsimp only
  by_cases ht : s.to_.size = 0
  · rw [if_pos ht]
    have := pos_le s.from_ l
    simp [ht]
    omega
  · rw [if_neg ht]
    simp only [ht, false_or]
    omega
theorem mem_rowsP {l : List Rw} (h : Sorted l) (s : SpanR) (r : Rw) : r ∈ rowsP l s ↔ r ∈ l ∧ inSpan r.key s := by
  have hle := endsP_le l s
  unfold rowsP
  constructor
  · intro hr
    obtain ⟨i, hi, rfl⟩ := List.mem_take_iff_getElem.1 hr
    rw [List.length_drop] at hi
    rw [List.getElem_drop]
    exact ⟨List.getElem_mem _, (in_ends h s _).2 ⟨by omega, by omega⟩⟩
  · rintro ⟨hr, hs⟩
    obtain ⟨i, hi, rfl⟩ := List.mem_iff_getElem.1 hr
    have := (in_ends h s hi).1 hs
    refine List.mem_take_iff_getElem.2 ⟨i - (endsP l s).1, by rw [List.length_drop]; omega, ?_⟩
    rw [List.getElem_drop]
    congr 1
    omega
theorem mem_dropP {l : List Rw} (h : Sorted l) (s : SpanR) (r : Rw) : r ∈ dropP l s ↔ r ∈ l ∧ ¬ inSpan r.key s := by
  have hle := endsP_le l s
  unfold dropP
  rw [List.mem_append]
  constructor
  · rintro (hr | hr)
    · obtain ⟨i, hi, rfl⟩ := List.mem_take_iff_getElem.1 hr
      exact ⟨List.getElem_mem _, fun hs => by have := (in_ends h s (by omega)).1 hs; omega⟩
    · obtain ⟨i, hi, rfl⟩ := List.mem_drop_iff_getElem.1 hr
      exact ⟨List.getElem_mem _, fun hs => by have := (in_ends h s (by omega)).1 hs; omega⟩
  · rintro ⟨hr, hs⟩
    obtain ⟨i, hi, rfl⟩ := List.mem_iff_getElem.1 hr
    have hn : ¬ ((endsP l s).1 ≤ i ∧ i < (endsP l s).2) := fun a => hs ((in_ends h s hi).2 a)
    by_cases h1 : i < (endsP l s).1
    · exact .inl (List.mem_take_iff_getElem.2 ⟨i, by omega, rfl⟩)
    · refine .inr (List.mem_drop_iff_getElem.2 ⟨i - (endsP l s).2, by omega, ?_⟩)
      congr 1
      omega
theorem rowsP_sorted {l : List Rw} (h : Sorted l) (s : SpanR) : Sorted (rowsP l s) := (h.drop _).take _
theorem dropP_sorted {l : List Rw} (h : Sorted l) (s : SpanR) : Sorted (dropP l s) := sorted_cut h _ _ (endsP_le l s).1
theorem dropP_len (l : List Rw) (s : SpanR) : (dropP l s).length + ((endsP l s).2 - (endsP l s).1) = l.length := by
  have := endsP_le l s
  unfold dropP
  rw [List.length_append, List.length_take, List.length_drop]
  omega
theorem rowsP_rowsOk {l : List Rw} (h : RowsOk l) (s : SpanR) : RowsOk (rowsP l s) := fun r hr => h r (List.mem_of_mem_drop (List.mem_of_mem_take hr))
theorem rows_again {l : List Rw} (h : Sorted l) (s : SpanR) : rowsP (rowsP l s) s = rowsP l s :=
  sorted_ext (rowsP_sorted (rowsP_sorted h s) s) (rowsP_sorted h s) fun r => by
    rw [mem_rowsP (rowsP_sorted h s)]
    exact ⟨fun ⟨a, _⟩ => a, fun a => ⟨a, ((mem_rowsP h s r).1 a).2⟩⟩
theorem rows_left {l : List Rw} (h : Sorted l) (s : SpanR) : rowsP (dropP l s) s = [] := by
  refine List.eq_nil_iff_forall_not_mem.2 fun r hr => ?_
  obtain ⟨h1, h2⟩ := (mem_rowsP (dropP_sorted h s) s r).1 hr
  exact ((mem_dropP h s r).1 h1).2 h2
theorem any_not {l : List Rw} (h : RowsOk l) : (l.any fun r => !rowOk r) = false := by
  rw [List.any_eq_false]
  intro r hr
  simp [h r hr]
theorem take_nil {l : List Rw} (h : RowsOk l) (hs : Sorted l) (hl : l.length ≤ 4096) : takeP [] l = (0, l) := by
  have hm : mergeP [] l = l := sorted_ext (merge_sorted List.Pairwise.nil hs) hs fun r => by
    rw [(merge_all List.Pairwise.nil hs).mem]
    simp
  unfold takeP
  rw [if_neg (by rw [any_not h]; simp), if_neg (fun a => a hs), hm, if_neg (by omega)]
theorem take_back {l : List Rw} (h : Sorted l) (hl : l.length ≤ 4096) (ho : RowsOk l) (s : SpanR) : takeP (dropP l s) (rowsP l s) = (0, l) := by
  have hr := rowsP_sorted h s
  have hd := dropP_sorted h s
  have hm : mergeP (dropP l s) (rowsP l s) = l := sorted_ext (merge_sorted hd hr) h fun r => by
    rw [(merge_all hd hr).mem, mem_rowsP h, mem_dropP h]
    constructor
    · rintro (⟨a, _⟩ | ⟨⟨a, _⟩, _⟩) <;> exact a
    · intro a
      by_cases hi : inSpan r.key s
      · exact .inl ⟨a, hi⟩
      · refine .inr ⟨⟨a, hi⟩, fun q hq e => ?_⟩
        have := ((mem_rowsP h s q).1 hq).2
        rw [e] at this
        exact hi this
  unfold takeP
  rw [if_neg (by rw [any_not (rowsP_rowsOk ho s)]; simp), if_neg (fun a => a hr), hm, if_neg (by omega)]
end Go.Proofs.Ytehfaeafefkngaa

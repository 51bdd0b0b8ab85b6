/- Sorted texts, plain. -/
import Derived.Test.YtkjopeiohjkhoaaSp
set_option linter.unusedVariables false
set_option linter.unusedSimpArgs false
namespace Go.Proofs.Ytkjopeiohjkhoaa
open Go.RowKit

def tEnc (x : ByteArray) : List Value := [.string x]
def tCells (l : List ByteArray) : List Value := l.flatMap tEnc
theorem elt_text : Elt Try.prog 57 9 1 16 := Elt.mk' Try.underlying57 (z := .string ⟨#[]⟩) (by kernel_rfl) rfl (by omega)
theorem text_one (l : List ByteArray) : ∀ u ∈ tCells l, u.oneCell' = true := by
  intro u hu
  unfold tCells at hu
  obtain ⟨r, _, hr⟩ := List.mem_flatMap.1 hu
  simp only [tEnc, List.mem_cons, List.not_mem_nil, or_false] at hr
  subst hr
  rfl
theorem tCells_snoc (l : List ByteArray) (x : ByteArray) : tCells l ++ tCells [x] = tCells (l ++ [x]) := by simp [tCells]
theorem own_tlen {w : World} {b e n : Nat} {v : Value} {l : List ByteArray} (h : w.ownsRow b e 1 v n (tCells l)) : l.length = n := by
  have h1 := h.1
  unfold tCells at h1
  rw [flat_len tEnc 1 (fun _ => rfl)] at h1
  omega

def SortedOf (l out : List ByteArray) : Prop := out.Pairwise klt ∧ (∀ y, y ∈ out ↔ y ∈ l) ∧ out.length ≤ l.length
theorem sorted_small {l : List ByteArray} (h : l.length < 2) : SortedOf l l := by
  refine ⟨?_, fun _ => Iff.rfl, Nat.le_refl _⟩
  match l, h with
  | [], _ => exact List.Pairwise.nil
  | [x], _ => exact List.pairwise_singleton _ _
/-- Two sorted lists, joined so far. -/
structure MergeI (la lb : List ByteArray) (i k : Nat) (out : List ByteArray) : Prop where
  srt : out.Pairwise klt
  mem : ∀ y, y ∈ out ↔ y ∈ la.take i ∨ y ∈ lb.take k
  ba : ∀ y ∈ out, ∀ h : i < la.length, klt y la[i]
  bb : ∀ y ∈ out, ∀ h : k < lb.length, klt y lb[k]
  len : out.length ≤ i + k
theorem MergeI.start (la lb : List ByteArray) : MergeI la lb 0 0 [] := ⟨List.Pairwise.nil, fun y => by simp, fun _ h => (by cases h), fun _ h => (by cases h), Nat.le_refl _⟩
section
variable {la lb out : List ByteArray} {i k : Nat}
theorem srt_next {l : List ByteArray} (h : l.Pairwise klt) {i : Nat} (hi : i + 1 < l.length) : klt l[i] l[i + 1] := List.pairwise_iff_getElem.1 h i (i + 1) (by omega) hi (by omega)
theorem MergeI.takeA (h : MergeI la lb i k out) (sa : la.Pairwise klt) (hi : i < la.length) (hlt : ∀ h : k < lb.length, klt la[i] lb[k]) : MergeI la lb (i + 1) k (out ++ [la[i]]) := by
  refine ⟨List.pairwise_append.2 ⟨h.srt, List.pairwise_singleton _ _, fun y hy z hz => ?_⟩, fun y => ?_, fun y hy hi1 => ?_, fun y hy hk => ?_, by have := h.len; simp; omega⟩
  · rw [List.mem_singleton] at hz; subst hz; exact h.ba y hy hi
  · rw [List.mem_append, h.mem, List.mem_singleton, List.take_succ_eq_append_getElem hi, List.mem_append, List.mem_singleton]
    constructor
    · rintro ((h1 | h1) | h1)
      · exact .inl (.inl h1)
      · exact .inr h1
      · exact .inl (.inr h1)
    · rintro ((h1 | h1) | h1)
      · exact .inl (.inl h1)
      · exact .inr h1
      · exact .inl (.inr h1)
  · rcases List.mem_append.1 hy with h1 | h1
    · exact klt_trans (h.ba y h1 hi) (srt_next sa hi1)
    · rw [List.mem_singleton] at h1; subst h1; exact srt_next sa hi1
  · rcases List.mem_append.1 hy with h1 | h1
    · exact h.bb y h1 hk
    · rw [List.mem_singleton] at h1; subst h1; exact hlt hk
theorem MergeI.takeB (h : MergeI la lb i k out) (sb : lb.Pairwise klt) (hk : k < lb.length) (hlt : ∀ h : i < la.length, klt lb[k] la[i]) : MergeI la lb i (k + 1) (out ++ [lb[k]]) := by
  refine ⟨List.pairwise_append.2 ⟨h.srt, List.pairwise_singleton _ _, fun y hy z hz => ?_⟩, fun y => ?_, fun y hy hi => ?_, fun y hy hk1 => ?_, by have := h.len; simp; omega⟩
  · rw [List.mem_singleton] at hz; subst hz; exact h.bb y hy hk
  · rw [List.mem_append, h.mem, List.mem_singleton, List.take_succ_eq_append_getElem hk, List.mem_append, List.mem_singleton, or_assoc]
  · rcases List.mem_append.1 hy with h1 | h1
    · exact h.ba y h1 hi
    · rw [List.mem_singleton] at h1; subst h1; exact hlt hi
  · rcases List.mem_append.1 hy with h1 | h1
    · exact klt_trans (h.bb y h1 hk) (srt_next sb hk1)
    · rw [List.mem_singleton] at h1; subst h1; exact srt_next sb hk1
theorem MergeI.both (h : MergeI la lb i k out) (sa : la.Pairwise klt) (sb : lb.Pairwise klt) (hi : i < la.length) (hk : k < lb.length) (he : la[i] = lb[k]) : MergeI la lb (i + 1) (k + 1) (out ++ [la[i]]) := by
  refine ⟨List.pairwise_append.2 ⟨h.srt, List.pairwise_singleton _ _, fun y hy z hz => ?_⟩, fun y => ?_, fun y hy hi1 => ?_, fun y hy hk1 => ?_, by have := h.len; simp; omega⟩
  · rw [List.mem_singleton] at hz; subst hz; exact h.ba y hy hi
  · rw [List.mem_append, h.mem, List.mem_singleton, List.take_succ_eq_append_getElem hi, List.take_succ_eq_append_getElem hk, List.mem_append, List.mem_append, List.mem_singleton, List.mem_singleton, ← he]
    constructor
    · rintro ((h1 | h1) | h1)
      · exact .inl (.inl h1)
      · exact .inr (.inl h1)
      · exact .inl (.inr h1)
    · rintro ((h1 | h1) | (h1 | h1))
      · exact .inl (.inl h1)
      · exact .inr h1
      · exact .inl (.inr h1)
      · exact .inr h1
  · rcases List.mem_append.1 hy with h1 | h1
    · exact klt_trans (h.ba y h1 hi) (srt_next sa hi1)
    · rw [List.mem_singleton] at h1; subst h1; exact srt_next sa hi1
  · rcases List.mem_append.1 hy with h1 | h1
    · exact klt_trans (h.bb y h1 hk) (srt_next sb hk1)
    · rw [List.mem_singleton] at h1; subst h1; rw [he]; exact srt_next sb hk1
theorem MergeI.done (h : MergeI la lb la.length lb.length out) {l l1 l2 : List ByteArray} (hl : l = l1 ++ l2) (sa : SortedOf l1 la) (sb : SortedOf l2 lb) : SortedOf l out := by
  refine ⟨h.srt, fun y => ?_, ?_⟩
  · rw [h.mem, List.take_length, List.take_length, sa.2.1, sb.2.1, hl, List.mem_append]
  · have := h.len; have := sa.2.2; have := sb.2.2
    rw [hl, List.length_append]
    omega
end
def ends1 (s : SpanR) : List ByteArray := s.from_ :: if s.to_.size = 0 then [] else [s.to_]
def allEnds (l : List SpanR) : List ByteArray := l.flatMap ends1
theorem allEnds_snoc (l : List SpanR) (s : SpanR) : allEnds (l ++ [s]) = allEnds l ++ ends1 s := by simp [allEnds]
theorem ends1_len (s : SpanR) : (ends1 s).length ≤ 2 := by unfold ends1; split <;> simp
theorem allEnds_len : ∀ l : List SpanR, (allEnds l).length ≤ 2 * l.length
  | [] => Nat.le_refl _
  | s :: l => by
    have h1 := ends1_len s
    have h2 := allEnds_len l
    show (ends1 s ++ allEnds l).length ≤ _
    rw [List.length_append, List.length_cons]
    omega
theorem allEnds_of {l : List SpanR} {s : SpanR} (hs : s ∈ l) : s.from_ ∈ allEnds l ∧ (s.to_.size = 0 ∨ s.to_ ∈ allEnds l) := by
  have h : ∀ y ∈ ends1 s, y ∈ allEnds l := fun y hy => List.mem_flatMap.2 ⟨s, hs, hy⟩
  refine ⟨h _ (by simp [ends1]), ?_⟩
  by_cases hz : s.to_.size = 0
  · exact .inl hz
  · exact .inr (h _ (by simp [ends1, hz]))
theorem allEnds_mem {l : List SpanR} {y : ByteArray} (hy : y ∈ allEnds l) : ∃ t ∈ l, y = t.from_ ∨ y = t.to_ := by
  obtain ⟨t, ht, h⟩ := List.mem_flatMap.1 hy
  refine ⟨t, ht, ?_⟩
  unfold ends1 at h
  split at h
  · rw [List.mem_singleton] at h; exact .inl h
  · simp only [List.mem_cons, List.not_mem_nil, or_false] at h; exact h
/-- A list made out of all ends, one by one, is the normal list. -/
theorem made_of {rf : Bool → Bool → Bool} (h0 : rf false false = false) {a b : List SpanR} {ks : List ByteArray} (hs : SortedOf (allEnds (a ++ b)) ks) {out : List SpanR} {was : Bool} (h : Mk (fun k => rf (inL a k) (inL b k)) ks out was) : Made rf a b out := by
  have ea : Ends a ks := fun s hs' => by
    have := allEnds_of (l := a ++ b) (List.mem_append_left _ hs')
    exact ⟨(hs.2.1 _).2 this.1, this.2.imp id (hs.2.1 _).2⟩
  have eb : Ends b ks := fun s hs' => by
    have := allEnds_of (l := a ++ b) (List.mem_append_right _ hs')
    exact ⟨(hs.2.1 _).2 this.1, this.2.imp id (hs.2.1 _).2⟩
  refine ⟨h.nrm, fun k => ?_, fun s hs' => ?_, ?_⟩
  · rw [h.sem k]
    refine gAt_eq (f := fun k => rf (inL a k) (inL b k)) hs.1 (fun hk => ?_) (fun x hx hx1 hx2 => ?_)
    · simp only [in_low ea hk, in_low eb hk, h0]
    · simp only [in_max ea hx1 hx2, in_max eb hx1 hx2]
  · exact ⟨allEnds_mem ((hs.2.1 _).1 (h.low s hs').1), (h.low s hs').2.imp id fun e => allEnds_mem ((hs.2.1 _).1 e)⟩
  · have h1 := h.len
    have h2 := hs.2.2
    have h3 := allEnds_len (a ++ b)
    rw [List.length_append] at h3
    omega
end Go.Proofs.Ytkjopeiohjkhoaa

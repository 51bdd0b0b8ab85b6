/- The document's Patch, plain. -/
import Derived.Test.YtgiajfgeplekbaaQ2
set_option linter.unusedVariables false
set_option linter.unusedSimpArgs false
namespace Go.Proofs.Ytgiajfgeplekbaa
open Go.RowKit

def findV (l : List Rw) (x : ByteArray) : Int := if there x l = true then (pos x l : Int) else -1
theorem findR_val {l : List Rw} (hs : Sorted l) {x : ByteArray} {v : Int} (h : FindR l x v) : v = findV l x := by
  unfold findV
  rcases h with ⟨h1, rfl⟩ | ⟨i, hi, rfl, hk, ht⟩
  · rw [if_neg (by rw [h1]; decide)]
  · rw [if_pos ht]
    obtain ⟨h2, h3⟩ := pos_lt hs ht
    rw [rowAt_eq h2] at h3
    rcases Nat.lt_trichotomy i (pos x l) with h4 | h4 | h4
    · have := List.pairwise_iff_getElem.1 hs i _ hi h2 h4
      rw [hk, h3] at this
      exact absurd this (klt_irrefl _)
    · rw [h4]
    · have := List.pairwise_iff_getElem.1 hs _ i h2 hi h4
      rw [hk, h3] at this
      exact absurd this (klt_irrefl _)
theorem findV_there {l : List Rw} {x : ByteArray} (h : there x l = true) : 0 ≤ findV l x := by unfold findV; rw [if_pos h]; omega
theorem findV_not {l : List Rw} {x : ByteArray} (h : there x l = false) : findV l x = -1 := by unfold findV; rw [if_neg (by rw [h]; decide)]
theorem RefFind_at {base : Nat} {w : World} {A : Option Addr} {n c : Nat} {l : List Rw} (hr : Rd base 29 w 3 A n c (rowCells l)) (hbig : n ≤ 1000000) (hs : Sorted l) (x : ByteArray) :
    Calls Try.prog 46 #[.slice A n c, .string x] w fun e w' => e = .returned (.int .i64 (findV l x)) ∧ w' = w :=
  (RefFind_calls hr hbig x).mono fun e w' ⟨v, h1, h2, h3⟩ => by
    rw [← findR_val hs h3]
    exact ⟨h1, h2⟩
/-- Two sorted lists of rows, joined so far. -/
structure RMerge (la lb : List Rw) (i k : Nat) (out : List Rw) : Prop where
  srt : Sorted out
  mem : ∀ y, y ∈ out ↔ y ∈ la.take i ∨ y ∈ lb.take k
  ba : ∀ y ∈ out, ∀ h : i < la.length, klt y.key la[i].key
  bb : ∀ y ∈ out, ∀ h : k < lb.length, klt y.key lb[k].key
  len : out.length ≤ i + k
theorem RMerge.start (la lb : List Rw) : RMerge la lb 0 0 [] := ⟨List.Pairwise.nil, fun y => by simp, fun _ h => (by cases h), fun _ h => (by cases h), Nat.le_refl _⟩
section
variable {la lb out : List Rw} {i k : Nat}
theorem rsrt_next {l : List Rw} (h : Sorted l) {i : Nat} (hi : i + 1 < l.length) : klt l[i].key l[i + 1].key := List.pairwise_iff_getElem.1 h i (i + 1) (by omega) hi (by omega)
theorem RMerge.takeA (h : RMerge la lb i k out) (sa : Sorted la) (hi : i < la.length) (hlt : ∀ h : k < lb.length, klt la[i].key lb[k].key) : RMerge la lb (i + 1) k (out ++ [la[i]]) := by
  refine ⟨List.pairwise_append.2 ⟨h.srt, List.pairwise_singleton _ _, fun y hy z hz => ?_⟩, fun y => ?_, fun y hy hi1 => ?_, fun y hy hk => ?_, by have := h.len; simp; omega⟩
  · rw [List.mem_singleton] at hz; subst hz; exact h.ba y hy hi
  · rw [List.mem_append, h.mem, List.mem_singleton, List.take_succ_eq_append_getElem hi, List.mem_append, List.mem_singleton]
    constructor
    · rintro ((h1 | h1) | h1)
      · exact .inl (.inl h1)
      · exact .inr h1
      · exact .inl (.inr h1)
    · rintro ((h1 | h1) | h1)
      · exact .inl (.inl h1)
      · exact .inr h1
      · exact .inl (.inr h1)
  · rcases List.mem_append.1 hy with h1 | h1
    · exact klt_trans (h.ba y h1 hi) (rsrt_next sa hi1)
    · rw [List.mem_singleton] at h1; subst h1; exact rsrt_next sa hi1
  · rcases List.mem_append.1 hy with h1 | h1
    · exact h.bb y h1 hk
    · rw [List.mem_singleton] at h1; subst h1; exact hlt hk
theorem RMerge.takeB (h : RMerge la lb i k out) (sb : Sorted lb) (hk : k < lb.length) (hlt : ∀ h : i < la.length, klt lb[k].key la[i].key) : RMerge la lb i (k + 1) (out ++ [lb[k]]) := by
  refine ⟨List.pairwise_append.2 ⟨h.srt, List.pairwise_singleton _ _, fun y hy z hz => ?_⟩, fun y => ?_, fun y hy hi => ?_, fun y hy hk1 => ?_, by have := h.len; simp; omega⟩
  · rw [List.mem_singleton] at hz; subst hz; exact h.bb y hy hk
  · rw [List.mem_append, h.mem, List.mem_singleton, List.take_succ_eq_append_getElem hk, List.mem_append, List.mem_singleton, or_assoc]
  · rcases List.mem_append.1 hy with h1 | h1
    · exact h.ba y h1 hi
    · rw [List.mem_singleton] at h1; subst h1; exact hlt hi
  · rcases List.mem_append.1 hy with h1 | h1
    · exact klt_trans (h.bb y h1 hk) (rsrt_next sb hk1)
    · rw [List.mem_singleton] at h1; subst h1; exact rsrt_next sb hk1
end
theorem left_apart {a b : List Rw} {ds : List ByteArray} : ∀ r ∈ leftP a b ds, ∀ q ∈ b, r.key ≠ q.key := fun r hr q hq e => by
  obtain ⟨_, h1⟩ := List.mem_filter.1 hr
  rw [Bool.and_eq_true] at h1
  rw [(there_iff _ _).2 ⟨q, hq, e.symm⟩] at h1
  exact absurd h1.1 (by decide)
theorem left_sorted {a b : List Rw} {ds : List ByteArray} (ha : Sorted a) : Sorted (leftP a b ds) := List.Pairwise.sublist List.filter_sublist ha
def RefPatchPost (w : World) (a b : List Rw) (ds : List ByteArray) (e : Ending) (w' : World) : Prop :=
  ∃ (P : Option Addr) (n c : Nat) (l : List Rw) (err : Int), e = .returned (.tuple #[.slice P n c, .int .i64 err]) ∧ Below w.heap.size w w' ∧ w'.ownsRow w.heap.size 29 3 (.slice P n c) n (rowCells l) ∧
    ((errP a b ≠ 0 ∧ err = errP a b ∧ l = []) ∨ (errP a b = 0 ∧ ((¬ OkD b ds ∧ err = 4 ∧ l = []) ∨ (OkD b ds ∧ err = 0 ∧ Sorted l ∧ ∀ r, r ∈ l ↔ r ∈ leftP a b ds ∨ r ∈ b))))
/-- Both tell the same. -/
theorem patch_same {a b l l' : List Rw} {ds : List ByteArray} {err err' : Int}
    (h : (errP a b ≠ 0 ∧ err = errP a b ∧ l = []) ∨ (errP a b = 0 ∧ ((¬ OkD b ds ∧ err = 4 ∧ l = []) ∨ (OkD b ds ∧ err = 0 ∧ Patched a b ds l))))
    (h' : (errP a b ≠ 0 ∧ err' = errP a b ∧ l' = []) ∨ (errP a b = 0 ∧ ((¬ OkD b ds ∧ err' = 4 ∧ l' = []) ∨ (OkD b ds ∧ err' = 0 ∧ Sorted l' ∧ ∀ r, r ∈ l' ↔ r ∈ leftP a b ds ∨ r ∈ b)))) : l = l' ∧ err = err' := by
  rcases h with ⟨h1, h2, h3⟩ | ⟨h1, h2⟩
  · rcases h' with ⟨_, k2, k3⟩ | ⟨k1, _⟩
    · exact ⟨by rw [h3, k3], by rw [h2, k2]⟩
    · exact absurd k1 h1
  · rcases h' with ⟨k1, _⟩ | ⟨_, k2⟩
    · exact absurd h1 k1
    · rcases h2 with ⟨h2, h3, h4⟩ | ⟨h2, h3, h4⟩
      · rcases k2 with ⟨_, k3, k4⟩ | ⟨k2, _⟩
        · exact ⟨by rw [h4, k4], by rw [h3, k3]⟩
        · exact absurd k2 h2
      · rcases k2 with ⟨k2, _⟩ | ⟨_, k3, k4, k5⟩
        · exact absurd h2 k2
        · obtain ⟨wa, wb⟩ := errP_parts h1
          refine ⟨sorted_ext (h4.sorted (wrongP_sorted wa) (wrongP_sorted wb)) k4 fun r => ?_, by rw [h3, k3]⟩
          rw [h4.perm.mem_iff, k5, List.mem_append, or_comm]
end Go.Proofs.Ytgiajfgeplekbaa

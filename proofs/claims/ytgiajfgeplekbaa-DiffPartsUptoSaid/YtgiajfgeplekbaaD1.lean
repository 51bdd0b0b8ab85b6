/- Rows in plain Lean. -/
import Derived.Test.YtgiajfgeplekbaaD0
set_option linter.unusedVariables false
set_option linter.unusedSimpArgs false
namespace Go.Proofs.Ytgiajfgeplekbaa
theorem pos_cons (x : ByteArray) (r : Rw) (l : List Rw) : pos x (r :: l) = if klt r.key x then pos x l + 1 else pos x l := by
  unfold pos
  rw [List.countP_cons]
  by_cases h : klt r.key x <;> simp [h]
theorem pos_le (x : ByteArray) (l : List Rw) : pos x l ≤ l.length := List.countP_le_length
theorem pos_zero (x : ByteArray) (l : List Rw) (h : ∀ r ∈ l, ¬ klt r.key x) : pos x l = 0 := by
  unfold pos
  rw [List.countP_eq_zero]
  intro r hr
  simpa using h r hr
theorem Sorted.tail {r : Rw} {l : List Rw} (h : Sorted (r :: l)) : Sorted l := (List.pairwise_cons.1 h).2
theorem Sorted.head {r : Rw} {l : List Rw} (h : Sorted (r :: l)) : ∀ q ∈ l, klt r.key q.key := (List.pairwise_cons.1 h).1

theorem take_pos (x : ByteArray) : ∀ (l : List Rw), Sorted l → ∀ r ∈ l.take (pos x l), klt r.key x
  | [], _ => by simp
  | q :: l, h => by
    rw [pos_cons]
    by_cases hq : klt q.key x
    · rw [if_pos hq]
      intro r hr
      rw [List.take_succ_cons] at hr
      rcases List.mem_cons.1 hr with rfl | hr
      · exact hq
      · exact take_pos x l h.tail r hr
    · rw [if_neg hq, pos_zero x l (fun r hr hk => hq (klt_trans (h.head r hr) hk))]
      simp
theorem drop_pos (x : ByteArray) : ∀ (l : List Rw), Sorted l → ∀ r ∈ l.drop (pos x l), ¬ klt r.key x
  | [], _ => by simp
  | q :: l, h => by
    rw [pos_cons]
    by_cases hq : klt q.key x
    · rw [if_pos hq]
      intro r hr
      rw [List.drop_succ_cons] at hr
      exact drop_pos x l h.tail r hr
    · rw [if_neg hq, pos_zero x l (fun r hr hk => hq (klt_trans (h.head r hr) hk))]
      intro r hr hk
      rcases List.mem_cons.1 (by simpa using hr : r ∈ q :: l) with rfl | hr
      · exact hq hk
      · exact hq (klt_trans (h.head r hr) hk)
theorem Sorted.drop {l : List Rw} (h : Sorted l) (i : Nat) : Sorted (l.drop i) := List.Pairwise.sublist (List.drop_sublist i l) h
theorem Sorted.take {l : List Rw} (h : Sorted l) (i : Nat) : Sorted (l.take i) := List.Pairwise.sublist (List.take_sublist i l) h

theorem there_iff (x : ByteArray) (l : List Rw) : there x l = true ↔ ∃ r ∈ l, r.key = x := by
  unfold there
  simp
/-- Where x is there, it stands at its place; behind it all are greater. -/
theorem there_drop {x : ByteArray} {l : List Rw} (h : Sorted l) (ht : there x l = true) : ∃ r rest, l.drop (pos x l) = r :: rest ∧ r.key = x ∧ ∀ q ∈ rest, klt x q.key := by
  obtain ⟨r, hr, hk⟩ := (there_iff x l).1 ht
  have hd : r ∈ l.drop (pos x l) := by
    rw [← List.take_append_drop (pos x l) l] at hr
    rcases List.mem_append.1 hr with h1 | h1
    · exact absurd (take_pos x l h r h1) (by rw [hk]; exact klt_irrefl x)
    · exact h1
  have hs := h.drop (pos x l)
  have hge := drop_pos x l h
  cases e : l.drop (pos x l) with
  | nil => rw [e] at hd; cases hd
  | cons q rest =>
    rw [e] at hd hs hge
    have hqr : q = r := by
      rcases List.mem_cons.1 hd with h1 | h1
      · exact h1.symm
      · have := hs.head r h1
        rw [hk] at this
        exact absurd this (hge q (List.mem_cons_self ..))
    subst hqr
    exact ⟨q, rest, rfl, hk, fun p hp => by rw [← hk]; exact hs.head p hp⟩
theorem notthere_drop {x : ByteArray} {l : List Rw} (h : Sorted l) (ht : there x l = false) : ∀ q ∈ l.drop (pos x l), klt x q.key := by
  intro q hq
  rcases klt_tri x q.key with h1 | h1 | h1
  · exact h1
  · exact absurd ((there_iff x l).2 ⟨q, List.mem_of_mem_drop hq, h1.symm⟩) (by rw [ht]; simp)
  · exact absurd h1 (drop_pos x l h q hq)
def rowAt (l : List Rw) (i : Nat) : Rw := l.getD i default
theorem rowAt_eq {l : List Rw} {i : Nat} (h : i < l.length) : rowAt l i = l[i] := by simp [rowAt, List.getD_eq_getElem?_getD, List.getElem?_eq_getElem h]
theorem pos_lt {x : ByteArray} {l : List Rw} (h : Sorted l) (ht : there x l = true) : pos x l < l.length ∧ (rowAt l (pos x l)).key = x := by
  obtain ⟨r, rest, e, hk, _⟩ := there_drop h ht
  have hl : pos x l < l.length := by
    rcases Nat.lt_or_ge (pos x l) l.length with h1 | h1
    · exact h1
    · rw [List.drop_eq_nil_of_le h1] at e; cases e
  refine ⟨hl, ?_⟩
  rw [rowAt_eq hl]
  rw [List.drop_eq_getElem_cons hl] at e
  injection e with e1 _
  rw [e1]
  exact hk
theorem drop_succ_pos {x : ByteArray} {l : List Rw} (h : Sorted l) (ht : there x l = true) : ∀ q ∈ l.drop (pos x l + 1), klt x q.key := by
  obtain ⟨r, rest, e, hk, hr⟩ := there_drop h ht
  have : l.drop (pos x l + 1) = rest := by rw [← List.drop_drop, e]; rfl
  rw [this]
  exact hr
/-- Rows put in their place are sorted. -/
theorem sorted_put {l : List Rw} (h : Sorted l) (r : Rw) (to : Nat) (hto : pos r.key l ≤ to) (hd : ∀ q ∈ l.drop to, klt r.key q.key) : Sorted (l.take (pos r.key l) ++ [r] ++ l.drop to) := by
  unfold Sorted
  rw [List.append_assoc, List.pairwise_append]
  refine ⟨h.take _, ?_, ?_⟩
  · rw [List.singleton_append, List.pairwise_cons]
    exact ⟨hd, h.drop _⟩
  · intro a ha b hb
    have h1 := take_pos r.key l h a ha
    rcases List.mem_cons.1 (by simpa using hb : b ∈ r :: l.drop to) with rfl | hb
    · exact h1
    · exact klt_trans h1 (hd b hb)
theorem sorted_cut {l : List Rw} (h : Sorted l) (i j : Nat) (hij : i ≤ j) : Sorted (l.take i ++ l.drop j) := by
  have : (l.take i ++ l.drop j).Sublist l := by
    have h1 : l.drop j = (l.drop i).drop (j - i) := by rw [List.drop_drop]; congr 1; omega
    rw [h1]
    conv => rhs; rw [← List.take_append_drop i l]
    exact List.Sublist.append_left (List.drop_sublist _ _) _
  exact List.Pairwise.sublist this h
/-- Strictly sorted lists with the same rows are one. -/
theorem sorted_ext : ∀ {l m : List Rw}, Sorted l → Sorted m → (∀ r, r ∈ l ↔ r ∈ m) → l = m
  | [], [], _, _, _ => rfl
  | [], b :: m, _, _, h => by have := (h b).2 (List.mem_cons_self ..); cases this
  | a :: l, [], _, _, h => by have := (h a).1 (List.mem_cons_self ..); cases this
  | a :: l, b :: m, hl, hm, h => by
    have hab : a = b := by
      rcases List.mem_cons.1 ((h a).1 (List.mem_cons_self ..)) with h1 | h1
      · exact h1
      · rcases List.mem_cons.1 ((h b).2 (List.mem_cons_self ..)) with h2 | h2
        · exact h2.symm
        · exact absurd (hl.head b h2) (klt_asymm (hm.head a h1))
    subst hab
    have := sorted_ext hl.tail hm.tail (fun r => by
      constructor
      · intro hr
        rcases List.mem_cons.1 ((h r).1 (List.mem_cons_of_mem _ hr)) with h1 | h1
        · subst h1; exact absurd (hl.head _ hr) (klt_irrefl _)
        · exact h1
      · intro hr
        rcases List.mem_cons.1 ((h r).2 (List.mem_cons_of_mem _ hr)) with h1 | h1
        · subst h1; exact absurd (hm.head _ hr) (klt_irrefl _)
        · exact h1)
    rw [this]
theorem key_inj {l : List Rw} (h : Sorted l) {r q : Rw} (hr : r ∈ l) (hq : q ∈ l) (hk : r.key = q.key) : r = q := by
  induction l with
  | nil => cases hr
  | cons a l ih =>
    rcases List.mem_cons.1 hr with rfl | hr'
    · rcases List.mem_cons.1 hq with rfl | hq'
      · rfl
      · have := h.head q hq'
        rw [hk] at this
        exact absurd this (klt_irrefl _)
    · rcases List.mem_cons.1 hq with rfl | hq'
      · have := h.head r hr'
        rw [hk] at this
        exact absurd this (klt_irrefl _)
      · exact ih h.tail hr' hq'

/-- The row of a key. -/
def get (l : List Rw) (k : ByteArray) : Option Rw := l.find? fun r => decide (r.key = k)
theorem get_some {l : List Rw} (h : Sorted l) {k : ByteArray} {r : Rw} : get l k = some r ↔ r ∈ l ∧ r.key = k := by
  unfold get
  constructor
  · intro e
    exact ⟨List.mem_of_find?_eq_some e, by simpa using List.find?_some e⟩
  · rintro ⟨hr, hk⟩
    cases e : l.find? fun r => decide (r.key = k) with
    | none => have := List.find?_eq_none.1 e r hr; simp [hk] at this
    | some q =>
      have hq := List.mem_of_find?_eq_some e
      have hqk : q.key = k := by simpa using List.find?_some e
      rw [key_inj h hr hq (hk.trans hqk.symm)]
theorem get_none {l : List Rw} {k : ByteArray} : get l k = none ↔ ∀ r ∈ l, r.key ≠ k := by
  unfold get
  rw [List.find?_eq_none]
  simp
theorem get_ext {l m : List Rw} (hl : Sorted l) (hm : Sorted m) (h : ∀ k, get l k = get m k) : l = m :=
  sorted_ext hl hm fun r => by
    have h1 := get_some hl (k := r.key) (r := r)
    have h2 := get_some hm (k := r.key) (r := r)
    rw [h r.key] at h1
    simp only [and_true] at h1 h2
    exact h1.symm.trans h2
theorem there_get (k : ByteArray) (l : List Rw) : there k l = (get l k).isSome := by
  cases e : get l k with
  | none =>
    have := get_none.1 e
    cases ht : there k l with
    | false => rfl
    | true =>
      obtain ⟨r, hr, hk⟩ := (there_iff k l).1 ht
      exact absurd hk (this r hr)
  | some r =>
    refine (there_iff k l).2 ⟨r, List.mem_of_find?_eq_some e, by simpa using List.find?_some e⟩
theorem rowAt_get {l : List Rw} (h : Sorted l) {k : ByteArray} {r : Rw} (hg : get l k = some r) : rowAt l (pos k l) = r := by
  have ht : there k l = true := by rw [there_get, hg]; rfl
  obtain ⟨h1, h2⟩ := pos_lt h ht
  have hm : rowAt l (pos k l) ∈ l := by rw [rowAt_eq h1]; exact List.getElem_mem h1
  obtain ⟨h3, h4⟩ := (get_some h).1 hg
  exact key_inj h hm h3 (h2.trans h4.symm)

theorem mem_cut {l : List Rw} (h : Sorted l) {k : ByteArray} (ht : there k l = true) (q : Rw) : q ∈ l.take (pos k l) ++ l.drop (pos k l + 1) ↔ q ∈ l ∧ q.key ≠ k := by
  obtain ⟨r, rest, e, hk, hr⟩ := there_drop h ht
  have hd : l.drop (pos k l + 1) = rest := by rw [← List.drop_drop, e]; rfl
  rw [hd]
  constructor
  · intro hq
    rcases List.mem_append.1 hq with h1 | h1
    · exact ⟨List.mem_of_mem_take h1, klt_ne (take_pos k l h q h1)⟩
    · refine ⟨?_, fun e2 => klt_irrefl k (by have := hr q h1; rwa [e2] at this)⟩
      have : q ∈ l.drop (pos k l) := by rw [e]; exact List.mem_cons_of_mem _ h1
      exact List.mem_of_mem_drop this
  · rintro ⟨hq, hne⟩
    rw [← List.take_append_drop (pos k l) l, e] at hq
    rcases List.mem_append.1 hq with h1 | h1
    · exact List.mem_append.2 (.inl h1)
    · rcases List.mem_cons.1 h1 with rfl | h1
      · exact absurd hk hne
      · exact List.mem_append.2 (.inr h1)
theorem mem_put {l : List Rw} (h : Sorted l) (r : Rw) (q : Rw) : q ∈ l.take (pos r.key l) ++ [r] ++ l.drop (if there r.key l then pos r.key l + 1 else pos r.key l) ↔ q = r ∨ (q ∈ l ∧ q.key ≠ r.key) := by
  have hsplit : q ∈ l.take (pos r.key l) ++ [r] ++ l.drop (if there r.key l then pos r.key l + 1 else pos r.key l) ↔ q = r ∨ q ∈ l.take (pos r.key l) ++ l.drop (if there r.key l then pos r.key l + 1 else pos r.key l) := by
    simp only [List.mem_append, List.mem_singleton]
    constructor
    · rintro ((h | h) | h)
      · exact .inr (.inl h)
      · exact .inl h
      · exact .inr (.inr h)
    · rintro (h | h | h)
      · exact .inl (.inr h)
      · exact .inl (.inl h)
      · exact .inr h
  rw [hsplit]
  cases ht : there r.key l with
  | true => rw [if_pos rfl, mem_cut h ht]
  | false =>
    rw [if_neg (by simp), List.take_append_drop]
    have : ∀ p ∈ l, p.key ≠ r.key := get_none.1 (by
      cases e : get l r.key with
      | none => rfl
      | some p => rw [there_get, e] at ht; cases ht)
    constructor
    · rintro (h | h)
      · exact .inl h
      · exact .inr ⟨h, this q h⟩
    · rintro (h | h)
      · exact .inl h
      · exact .inr h.1

/-- What an operation on a key does to the key's row, where there is room. -/
def RowsOk (l : List Rw) : Prop := ∀ r ∈ l, rowOk r = true
theorem rowOk_key {r : Rw} (h : rowOk r = true) : r.key.size ≤ 64 := by
  simp [rowOk] at h
  omega
end Go.Proofs.Ytgiajfgeplekbaa

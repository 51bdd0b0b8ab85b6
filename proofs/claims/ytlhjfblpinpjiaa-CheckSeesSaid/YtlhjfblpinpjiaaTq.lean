/- The table in plain Lean: what an operation does, key by key. -/
import Derived.Test.YtlhjfblpinpjiaaTb8w
set_option linter.unusedVariables false
set_option linter.unusedSimpArgs false
namespace Go.Proofs.Ytlhjfblpinpjiaa

/-- Strictly sorted lists with the same rows are one. -/
theorem sorted_ext : ∀ {l m : List Rw}, Sorted l → Sorted m → (∀ r, r ∈ l ↔ r ∈ m) → l = m
  | [], [], _, _, _ => rfl
  | [], b :: m, _, _, h => by have := (h b).2 (List.mem_cons_self ..); cases this
  | a :: l, [], _, _, h => by have := (h a).1 (List.mem_cons_self ..); cases this
  | a :: l, b :: m, hl, hm, h => by
    have hab : a = b := by
      rcases List.mem_cons.1 ((h a).1 (List.mem_cons_self ..)) with h1 | h1
      · exact h1
      · rcases List.mem_cons.1 ((h b).2 (List.mem_cons_self ..)) with h2 | h2
        · exact h2.symm
        · exact absurd (hl.head b h2) (klt_asymm (hm.head a h1))
    subst hab
    have := sorted_ext hl.tail hm.tail (fun r => by
      constructor
      · intro hr
        rcases List.mem_cons.1 ((h r).1 (List.mem_cons_of_mem _ hr)) with h1 | h1
        · subst h1; exact absurd (hl.head _ hr) (klt_irrefl _)
        · exact h1
      · intro hr
        rcases List.mem_cons.1 ((h r).2 (List.mem_cons_of_mem _ hr)) with h1 | h1
        · subst h1; exact absurd (hm.head _ hr) (klt_irrefl _)
        · exact h1)
    rw [this]
theorem key_inj {l : List Rw} (h : Sorted l) {r q : Rw} (hr : r ∈ l) (hq : q ∈ l) (hk : r.key = q.key) : r = q := by
  induction l with
  | nil => cases hr
  | cons a l ih =>
    rcases List.mem_cons.1 hr with rfl | hr'
    · rcases List.mem_cons.1 hq with rfl | hq'
      · rfl
      · have := h.head q hq'
        rw [hk] at this
        exact absurd this (klt_irrefl _)
    · rcases List.mem_cons.1 hq with rfl | hq'
      · have := h.head r hr'
        rw [hk] at this
        exact absurd this (klt_irrefl _)
      · exact ih h.tail hr' hq'

/-- The row of a key. -/
def get (l : List Rw) (k : ByteArray) : Option Rw := l.find? fun r => decide (r.key = k)
theorem get_some {l : List Rw} (h : Sorted l) {k : ByteArray} {r : Rw} : get l k = some r ↔ r ∈ l ∧ r.key = k := by
  unfold get
  constructor
  · intro e
    exact ⟨List.mem_of_find?_eq_some e, by simpa using List.find?_some e⟩
  · rintro ⟨hr, hk⟩
    cases e : l.find? fun r => decide (r.key = k) with
    | none => have := List.find?_eq_none.1 e r hr; simp [hk] at this
    | some q =>
      have hq := List.mem_of_find?_eq_some e
      have hqk : q.key = k := by simpa using List.find?_some e
      rw [key_inj h hr hq (hk.trans hqk.symm)]
theorem get_none {l : List Rw} {k : ByteArray} : get l k = none ↔ ∀ r ∈ l, r.key ≠ k := by
  unfold get
  rw [List.find?_eq_none]
  simp
theorem get_ext {l m : List Rw} (hl : Sorted l) (hm : Sorted m) (h : ∀ k, get l k = get m k) : l = m :=
  sorted_ext hl hm fun r => by
    have h1 := get_some hl (k := r.key) (r := r)
    have h2 := get_some hm (k := r.key) (r := r)
    rw [h r.key] at h1
    simp only [and_true] at h1 h2
    exact h1.symm.trans h2
theorem there_get (k : ByteArray) (l : List Rw) : there k l = (get l k).isSome := by
  cases e : get l k with
  | none =>
    have := get_none.1 e
    cases ht : there k l with
    | false => rfl
    | true =>
      obtain ⟨r, hr, hk⟩ := (there_iff k l).1 ht
      exact absurd hk (this r hr)
  | some r =>
    refine (there_iff k l).2 ⟨r, List.mem_of_find?_eq_some e, by simpa using List.find?_some e⟩
theorem rowAt_get {l : List Rw} (h : Sorted l) {k : ByteArray} {r : Rw} (hg : get l k = some r) : rowAt l (pos k l) = r := by
  have ht : there k l = true := by rw [there_get, hg]; rfl
  obtain ⟨h1, h2⟩ := pos_lt h ht
  have hm : rowAt l (pos k l) ∈ l := by rw [rowAt_eq h1]; exact List.getElem_mem h1
  obtain ⟨h3, h4⟩ := (get_some h).1 hg
  exact key_inj h hm h3 (h2.trans h4.symm)

theorem mem_cut {l : List Rw} (h : Sorted l) {k : ByteArray} (ht : there k l = true) (q : Rw) : q ∈ l.take (pos k l) ++ l.drop (pos k l + 1) ↔ q ∈ l ∧ q.key ≠ k := by
  obtain ⟨r, rest, e, hk, hr⟩ := there_drop h ht
  have hd : l.drop (pos k l + 1) = rest := by rw [← List.drop_drop, e]; rfl
  rw [hd]
  constructor
  · intro hq
    rcases List.mem_append.1 hq with h1 | h1
    · exact ⟨List.mem_of_mem_take h1, klt_ne (take_pos k l h q h1)⟩
    · refine ⟨?_, fun e2 => klt_irrefl k (by have := hr q h1; rwa [e2] at this)⟩
      have : q ∈ l.drop (pos k l) := by rw [e]; exact List.mem_cons_of_mem _ h1
      exact List.mem_of_mem_drop this
  · rintro ⟨hq, hne⟩
    rw [← List.take_append_drop (pos k l) l, e] at hq
    rcases List.mem_append.1 hq with h1 | h1
    · exact List.mem_append.2 (.inl h1)
    · rcases List.mem_cons.1 h1 with rfl | h1
      · exact absurd hk hne
      · exact List.mem_append.2 (.inr h1)
theorem mem_put {l : List Rw} (h : Sorted l) (r : Rw) (q : Rw) : q ∈ l.take (pos r.key l) ++ [r] ++ l.drop (if there r.key l then pos r.key l + 1 else pos r.key l) ↔ q = r ∨ (q ∈ l ∧ q.key ≠ r.key) := by
  have hsplit : q ∈ l.take (pos r.key l) ++ [r] ++ l.drop (if there r.key l then pos r.key l + 1 else pos r.key l) ↔ q = r ∨ q ∈ l.take (pos r.key l) ++ l.drop (if there r.key l then pos r.key l + 1 else pos r.key l) := by
    simp only [List.mem_append, List.mem_singleton]
    constructor
    · rintro ((h | h) | h)
      · exact .inr (.inl h)
      · exact .inl h
      · exact .inr (.inr h)
    · rintro (h | h | h)
      · exact .inl (.inr h)
      · exact .inl (.inl h)
      · exact .inr h
  rw [hsplit]
  cases ht : there r.key l with
  | true => rw [if_pos rfl, mem_cut h ht]
  | false =>
    rw [if_neg (by simp), List.take_append_drop]
    have : ∀ p ∈ l, p.key ≠ r.key := get_none.1 (by
      cases e : get l r.key with
      | none => rfl
      | some p => rw [there_get, e] at ht; cases ht)
    constructor
    · rintro (h | h)
      · exact .inl h
      · exact .inr ⟨h, this q h⟩
    · rintro (h | h)
      · exact .inl h
      · exact .inr h.1

/-- What an operation on a key does to the key's row, where there is room. -/
def opG (g : Option Rw) (x : OpR) : Option Rw × Res :=
  if x.kind = 4 ∨ x.kind = 5 then
    match g with
    | none => (none, .fail 91 0)
    | some s => if x.test ≠ 0 ∧ x.test ≠ s.stamp then (g, .fail 92 s.stamp) else if x.kind = 5 then (g, ⟨0, s.stamp, s.val, []⟩) else (none, .fail 0 s.stamp)
  else
    match g with
    | some s =>
      if x.kind = 1 then (g, .fail 90 s.stamp)
      else if (x.test ≠ 0 ∧ x.test ≠ s.stamp) ∨ x.stamp ≤ s.stamp then (g, .fail 92 s.stamp)
      else if (4096 : Int) < x.val.size then (g, .fail 93 0) else (some ⟨x.key, x.stamp, x.val⟩, .fail 0 x.stamp)
    | none =>
      if x.kind = 2 ∨ x.test ≠ 0 then (g, .fail 91 0)
      else if (4096 : Int) < x.val.size then (g, .fail 93 0) else (some ⟨x.key, x.stamp, x.val⟩, .fail 0 x.stamp)

theorem get_put {l : List Rw} (h : Sorted l) (r : Rw) (k : ByteArray) : get (l.take (pos r.key l) ++ [r] ++ l.drop (if there r.key l then pos r.key l + 1 else pos r.key l)) k = if k = r.key then some r else get l k := by
  have hs : Sorted (l.take (pos r.key l) ++ [r] ++ l.drop (if there r.key l then pos r.key l + 1 else pos r.key l)) := by
    cases ht : there r.key l with
    | true => exact sorted_put h r _ (by simp) (by simpa using drop_succ_pos h ht)
    | false => exact sorted_put h r _ (by simp) (by simpa using notthere_drop h ht)
  by_cases hk : k = r.key
  · rw [if_pos hk]
    exact (get_some hs).2 ⟨(mem_put h r r).2 (.inl rfl), hk.symm⟩
  · rw [if_neg hk]
    apply Option.ext
    intro q
    rw [get_some hs, get_some h, mem_put h r q]
    constructor
    · rintro ⟨h1 | h1, h2⟩
      · subst h1; exact absurd h2.symm hk
      · exact ⟨h1.1, h2⟩
    · rintro ⟨h1, h2⟩
      exact ⟨.inr ⟨h1, by rw [h2]; exact hk⟩, h2⟩
theorem get_cut {l : List Rw} (h : Sorted l) {k0 : ByteArray} (ht : there k0 l = true) (k : ByteArray) : get (l.take (pos k0 l) ++ l.drop (pos k0 l + 1)) k = if k = k0 then none else get l k := by
  have hs : Sorted (l.take (pos k0 l) ++ l.drop (pos k0 l + 1)) := sorted_cut h _ _ (by omega)
  by_cases hk : k = k0
  · rw [if_pos hk]
    exact get_none.2 fun r hr e => ((mem_cut h ht r).1 hr).2 (e.trans hk)
  · rw [if_neg hk]
    apply Option.ext
    intro q
    rw [get_some hs, get_some h, mem_cut h ht q]
    constructor
    · rintro ⟨⟨h1, _⟩, h2⟩; exact ⟨h1, h2⟩
    · rintro ⟨h1, h2⟩; exact ⟨⟨h1, by rw [h2]; exact hk⟩, h2⟩

theorem oneP_get {l : List Rw} (h : Sorted l) (hl : l.length < 4096) (x : OpR) (h6 : x.kind ≠ 6) :
    (oneP l x).2 = (opG (get l x.key) x).2 ∧ ∀ k, get (oneP l x).1 k = if k = x.key then (opG (get l x.key) x).1 else get l k := by
  have self : ∀ k, get l k = if k = x.key then get l x.key else get l k := by
    intro k
    by_cases e : k = x.key
    · rw [if_pos e, e]
    · rw [if_neg e]
  unfold oneP opG writeP
  dsimp only
  rw [if_neg h6]
  have hput := get_put h ⟨x.key, x.stamp, x.val⟩
  cases hg : get l x.key with
  | none =>
    have ht : there x.key l = false := by rw [there_get, hg]; rfl
    simp only [ht] at hput
    rw [hg] at self
    by_cases h45 : x.kind = 4 ∨ x.kind = 5
    · rw [if_pos h45, if_pos h45, if_pos ht]
      exact ⟨rfl, self⟩
    · rw [if_neg h45, if_neg h45]
      simp only [ht, Bool.false_eq_true, false_and, if_false, true_and]
      by_cases h2 : x.kind = 2 ∨ x.test ≠ 0
      · simp only [h2, if_true]; exact ⟨trivial, self⟩
      · simp only [h2, if_false]
        by_cases hb : (4096 : Int) < x.val.size
        · simp only [hb, if_true]; exact ⟨trivial, self⟩
        · simp only [hb, if_false]
          rw [if_neg (by omega)]
          exact ⟨rfl, by simpa using hput⟩
  | some s =>
    have ht : there x.key l = true := by rw [there_get, hg]; rfl
    have hs := rowAt_get h hg
    have hcut := get_cut h ht
    rw [hs]
    simp only [ht] at hput
    rw [hg] at self
    by_cases h45 : x.kind = 4 ∨ x.kind = 5
    · rw [if_pos h45, if_pos h45, if_neg (by rw [ht]; simp)]
      dsimp only
      by_cases h1 : x.test ≠ 0 ∧ x.test ≠ s.stamp
      · rw [if_pos h1, if_pos h1]; exact ⟨rfl, self⟩
      · rw [if_neg h1, if_neg h1]
        by_cases h5 : x.kind = 5
        · rw [if_pos h5, if_pos h5]; exact ⟨rfl, self⟩
        · rw [if_neg h5, if_neg h5]; exact ⟨rfl, hcut⟩
    · rw [if_neg h45, if_neg h45]
      simp only [ht, true_and, Bool.true_eq_false, false_and, if_false]
      by_cases h1 : x.kind = 1
      · rw [if_pos h1, if_pos h1]; exact ⟨rfl, self⟩
      · rw [if_neg h1, if_neg h1]
        by_cases h2 : (x.test ≠ 0 ∧ x.test ≠ s.stamp) ∨ x.stamp ≤ s.stamp
        · rw [if_pos h2, if_pos h2]; exact ⟨rfl, self⟩
        · rw [if_neg h2, if_neg h2]
          by_cases hb : (4096 : Int) < x.val.size
          · rw [if_pos hb, if_pos hb]; exact ⟨rfl, self⟩
          · rw [if_neg hb, if_neg hb]
            exact ⟨rfl, by simpa using hput⟩
end Go.Proofs.Ytlhjfblpinpjiaa

/- The table in plain Lean: what an operation does, key by key. The table in plain Lean: operations on unlike keys; how many rows there are. The table in plain Lean: each row that stands in a table may be (rowOk). -/
import Derived.Test.YtallnibjmffahaaGreatDoorJ06
import Derived.Test.YtallnibjmffahaaGreatDoorJ07
set_option linter.unusedVariables false
set_option linter.unusedSimpArgs false
namespace Go.Proofs.YtallnibjmffahaaGreatDoor

/-- Strictly sorted lists with the same rows are one. -/
theorem sorted_ext : ∀ {l m : List Rw}, Sorted l → Sorted m → (∀ r, r ∈ l ↔ r ∈ m) → l = m
  | [], [], _, _, _ => rfl
  | [], b :: m, _, _, h => by have := (h b).2 (List.mem_cons_self ..); cases this
  | a :: l, [], _, _, h => by have := (h a).1 (List.mem_cons_self ..); cases this
  | a :: l, b :: m, hl, hm, h => by
    have hab : a = b := by
      rcases List.mem_cons.1 ((h a).1 (List.mem_cons_self ..)) with h1 | h1
      · exact h1
      · rcases List.mem_cons.1 ((h b).2 (List.mem_cons_self ..)) with h2 | h2
        · exact h2.symm
        · exact absurd (hl.head b h2) (klt_asymm (hm.head a h1))
    subst hab
    have := sorted_ext hl.tail hm.tail (fun r => by
      constructor
      · intro hr
        rcases List.mem_cons.1 ((h r).1 (List.mem_cons_of_mem _ hr)) with h1 | h1
        · subst h1; exact absurd (hl.head _ hr) (klt_irrefl _)
        · exact h1
      · intro hr
        rcases List.mem_cons.1 ((h r).2 (List.mem_cons_of_mem _ hr)) with h1 | h1
        · subst h1; exact absurd (hm.head _ hr) (klt_irrefl _)
        · exact h1)
    rw [this]
theorem key_inj {l : List Rw} (h : Sorted l) {r q : Rw} (hr : r ∈ l) (hq : q ∈ l) (hk : r.key = q.key) : r = q := by
  induction l with
  | nil => cases hr
  | cons a l ih =>
    rcases List.mem_cons.1 hr with rfl | hr'
    · rcases List.mem_cons.1 hq with rfl | hq'
      · rfl
      · have := h.head q hq'
        rw [hk] at this
        exact absurd this (klt_irrefl _)
    · rcases List.mem_cons.1 hq with rfl | hq'
      · have := h.head r hr'
        rw [hk] at this
        exact absurd this (klt_irrefl _)
      · exact ih h.tail hr' hq'

/-- The row of a key. -/
def get (l : List Rw) (k : ByteArray) : Option Rw := l.find? fun r => decide (r.key = k)
theorem get_some {l : List Rw} (h : Sorted l) {k : ByteArray} {r : Rw} : get l k = some r ↔ r ∈ l ∧ r.key = k := by
  unfold get
  constructor
  · intro e
    exact ⟨List.mem_of_find?_eq_some e, by simpa using List.find?_some e⟩
  · rintro ⟨hr, hk⟩
    cases e : l.find? fun r => decide (r.key = k) with
    | none => have := List.find?_eq_none.1 e r hr; simp [hk] at this
    | some q =>
      have hq := List.mem_of_find?_eq_some e
      have hqk : q.key = k := by simpa using List.find?_some e
      rw [key_inj h hr hq (hk.trans hqk.symm)]
theorem get_none {l : List Rw} {k : ByteArray} : get l k = none ↔ ∀ r ∈ l, r.key ≠ k := by
  unfold get
  rw [List.find?_eq_none]
  simp
theorem get_ext {l m : List Rw} (hl : Sorted l) (hm : Sorted m) (h : ∀ k, get l k = get m k) : l = m :=
  sorted_ext hl hm fun r => by
    have h1 := get_some hl (k := r.key) (r := r)
    have h2 := get_some hm (k := r.key) (r := r)
    rw [h r.key] at h1
    simp only [and_true] at h1 h2
    exact h1.symm.trans h2
theorem there_get (k : ByteArray) (l : List Rw) : there k l = (get l k).isSome := by
  cases e : get l k with
  | none =>
    have := get_none.1 e
    cases ht : there k l with
    | false => rfl
    | true =>
      obtain ⟨r, hr, hk⟩ := (there_iff k l).1 ht
      exact absurd hk (this r hr)
  | some r =>
    refine (there_iff k l).2 ⟨r, List.mem_of_find?_eq_some e, by simpa using List.find?_some e⟩
theorem rowAt_get {l : List Rw} (h : Sorted l) {k : ByteArray} {r : Rw} (hg : get l k = some r) : rowAt l (pos k l) = r := by
  have ht : there k l = true := by rw [there_get, hg]; rfl
  obtain ⟨h1, h2⟩ := pos_lt h ht
  have hm : rowAt l (pos k l) ∈ l := by rw [rowAt_eq h1]; exact List.getElem_mem h1
  obtain ⟨h3, h4⟩ := (get_some h).1 hg
  exact key_inj h hm h3 (h2.trans h4.symm)

theorem mem_cut {l : List Rw} (h : Sorted l) {k : ByteArray} (ht : there k l = true) (q : Rw) : q ∈ l.take (pos k l) ++ l.drop (pos k l + 1) ↔ q ∈ l ∧ q.key ≠ k := by
  obtain ⟨r, rest, e, hk, hr⟩ := there_drop h ht
  have hd : l.drop (pos k l + 1) = rest := by rw [← List.drop_drop, e]; rfl
  rw [hd]
  constructor
  · intro hq
    rcases List.mem_append.1 hq with h1 | h1
    · exact ⟨List.mem_of_mem_take h1, klt_ne (take_pos k l h q h1)⟩
    · refine ⟨?_, fun e2 => klt_irrefl k (by have := hr q h1; rwa [e2] at this)⟩
      have : q ∈ l.drop (pos k l) := by rw [e]; exact List.mem_cons_of_mem _ h1
      exact List.mem_of_mem_drop this
  · rintro ⟨hq, hne⟩
    rw [← List.take_append_drop (pos k l) l, e] at hq
    rcases List.mem_append.1 hq with h1 | h1
    · exact List.mem_append.2 (.inl h1)
    · rcases List.mem_cons.1 h1 with rfl | h1
      · exact absurd hk hne
      · exact List.mem_append.2 (.inr h1)
theorem mem_put {l : List Rw} (h : Sorted l) (r : Rw) (q : Rw) : q ∈ l.take (pos r.key l) ++ [r] ++ l.drop (if there r.key l then pos r.key l + 1 else pos r.key l) ↔ q = r ∨ (q ∈ l ∧ q.key ≠ r.key) := by
  have hsplit : q ∈ l.take (pos r.key l) ++ [r] ++ l.drop (if there r.key l then pos r.key l + 1 else pos r.key l) ↔ q = r ∨ q ∈ l.take (pos r.key l) ++ l.drop (if there r.key l then pos r.key l + 1 else pos r.key l) := by
    simp only [List.mem_append, List.mem_singleton]
    constructor
    · rintro ((h | h) | h)
      · exact .inr (.inl h)
      · exact .inl h
      · exact .inr (.inr h)
    · rintro (h | h | h)
      · exact .inl (.inr h)
      · exact .inl (.inl h)
      · exact .inr h
  rw [hsplit]
  cases ht : there r.key l with
  | true => rw [if_pos rfl, mem_cut h ht]
  | false =>
    rw [if_neg (by simp), List.take_append_drop]
    have : ∀ p ∈ l, p.key ≠ r.key := get_none.1 (by
      cases e : get l r.key with
      | none => rfl
      | some p => rw [there_get, e] at ht; cases ht)
    constructor
    · rintro (h | h)
      · exact .inl h
      · exact .inr ⟨h, this q h⟩
    · rintro (h | h)
      · exact .inl h
      · exact .inr h.1

/-- What an operation on a key does to the key's row, where there is room. -/
def opG (g : Option Rw) (x : OpR) : Option Rw × Res :=
  if x.kind = 4 ∨ x.kind = 5 then
    match g with
    | none => (none, .fail 91 0)
    | some s => if x.test ≠ 0 ∧ x.test ≠ s.stamp then (g, .fail 92 s.stamp) else if x.kind = 5 then (g, ⟨0, s.stamp, s.val, []⟩) else (none, .fail 0 s.stamp)
  else
    match g with
    | some s =>
      if x.kind = 1 then (g, .fail 90 s.stamp)
      else if (x.test ≠ 0 ∧ x.test ≠ s.stamp) ∨ x.stamp ≤ s.stamp then (g, .fail 92 s.stamp)
      else if (4096 : Int) < x.val.size then (g, .fail 93 0) else (some ⟨x.key, x.stamp, x.val⟩, .fail 0 x.stamp)
    | none =>
      if x.kind = 2 ∨ x.test ≠ 0 then (g, .fail 91 0)
      else if (4096 : Int) < x.val.size then (g, .fail 93 0) else (some ⟨x.key, x.stamp, x.val⟩, .fail 0 x.stamp)

theorem get_put {l : List Rw} (h : Sorted l) (r : Rw) (k : ByteArray) : get (l.take (pos r.key l) ++ [r] ++ l.drop (if there r.key l then pos r.key l + 1 else pos r.key l)) k = if k = r.key then some r else get l k := by
  have hs : Sorted (l.take (pos r.key l) ++ [r] ++ l.drop (if there r.key l then pos r.key l + 1 else pos r.key l)) := by
    cases ht : there r.key l with
    | true => exact sorted_put h r _ (by simp) (by simpa using drop_succ_pos h ht)
    | false => exact sorted_put h r _ (by simp) (by simpa using notthere_drop h ht)
  by_cases hk : k = r.key
  · rw [if_pos hk]
    exact (get_some hs).2 ⟨(mem_put h r r).2 (.inl rfl), hk.symm⟩
  · rw [if_neg hk]
    apply Option.ext
    intro q
    rw [get_some hs, get_some h, mem_put h r q]
    constructor
    · rintro ⟨h1 | h1, h2⟩
      · subst h1; exact absurd h2.symm hk
      · exact ⟨h1.1, h2⟩
    · rintro ⟨h1, h2⟩
      exact ⟨.inr ⟨h1, by rw [h2]; exact hk⟩, h2⟩
theorem get_cut {l : List Rw} (h : Sorted l) {k0 : ByteArray} (ht : there k0 l = true) (k : ByteArray) : get (l.take (pos k0 l) ++ l.drop (pos k0 l + 1)) k = if k = k0 then none else get l k := by
  have hs : Sorted (l.take (pos k0 l) ++ l.drop (pos k0 l + 1)) := sorted_cut h _ _ (by omega)
  by_cases hk : k = k0
  · rw [if_pos hk]
    exact get_none.2 fun r hr e => ((mem_cut h ht r).1 hr).2 (e.trans hk)
  · rw [if_neg hk]
    apply Option.ext
    intro q
    rw [get_some hs, get_some h, mem_cut h ht q]
    constructor
    · rintro ⟨⟨h1, _⟩, h2⟩; exact ⟨h1, h2⟩
    · rintro ⟨h1, h2⟩; exact ⟨⟨h1, by rw [h2]; exact hk⟩, h2⟩

theorem oneP_get {l : List Rw} (h : Sorted l) (hl : l.length < 4096) (x : OpR) (h6 : x.kind ≠ 6) :
    (oneP l x).2 = (opG (get l x.key) x).2 ∧ ∀ k, get (oneP l x).1 k = if k = x.key then (opG (get l x.key) x).1 else get l k := by
  have self : ∀ k, get l k = if k = x.key then get l x.key else get l k := by
    intro k
    by_cases e : k = x.key
    · rw [if_pos e, e]
    · rw [if_neg e]
  unfold oneP opG writeP
  dsimp only
  rw [if_neg h6]
  have hput := get_put h ⟨x.key, x.stamp, x.val⟩
  cases hg : get l x.key with
  | none =>
    have ht : there x.key l = false := by rw [there_get, hg]; rfl
    simp only [ht] at hput
    rw [hg] at self
    by_cases h45 : x.kind = 4 ∨ x.kind = 5
    · rw [if_pos h45, if_pos h45, if_pos ht]
      exact ⟨rfl, self⟩
    · rw [if_neg h45, if_neg h45]
      simp only [ht, Bool.false_eq_true, false_and, if_false, true_and]
      by_cases h2 : x.kind = 2 ∨ x.test ≠ 0
      · simp only [h2, if_true]; exact ⟨trivial, self⟩
      · simp only [h2, if_false]
        by_cases hb : (4096 : Int) < x.val.size
        · simp only [hb, if_true]; exact ⟨trivial, self⟩
        · simp only [hb, if_false]
          rw [if_neg (by omega)]
          exact ⟨rfl, by simpa using hput⟩
  | some s =>
    have ht : there x.key l = true := by rw [there_get, hg]; rfl
    have hs := rowAt_get h hg
    have hcut := get_cut h ht
    rw [hs]
    simp only [ht] at hput
    rw [hg] at self
    by_cases h45 : x.kind = 4 ∨ x.kind = 5
    · rw [if_pos h45, if_pos h45, if_neg (by rw [ht]; simp)]
      dsimp only
      by_cases h1 : x.test ≠ 0 ∧ x.test ≠ s.stamp
      · rw [if_pos h1, if_pos h1]; exact ⟨rfl, self⟩
      · rw [if_neg h1, if_neg h1]
        by_cases h5 : x.kind = 5
        · rw [if_pos h5, if_pos h5]; exact ⟨rfl, self⟩
        · rw [if_neg h5, if_neg h5]; exact ⟨rfl, hcut⟩
    · rw [if_neg h45, if_neg h45]
      simp only [ht, true_and, Bool.true_eq_false, false_and, if_false]
      by_cases h1 : x.kind = 1
      · rw [if_pos h1, if_pos h1]; exact ⟨rfl, self⟩
      · rw [if_neg h1, if_neg h1]
        by_cases h2 : (x.test ≠ 0 ∧ x.test ≠ s.stamp) ∨ x.stamp ≤ s.stamp
        · rw [if_pos h2, if_pos h2]; exact ⟨rfl, self⟩
        · rw [if_neg h2, if_neg h2]
          by_cases hb : (4096 : Int) < x.val.size
          · rw [if_pos hb, if_pos hb]; exact ⟨rfl, self⟩
          · rw [if_neg hb, if_neg hb]
            exact ⟨rfl, by simpa using hput⟩
end Go.Proofs.YtallnibjmffahaaGreatDoor

set_option linter.unusedVariables false
set_option linter.unusedSimpArgs false
namespace Go.Proofs.YtallnibjmffahaaGreatDoor

theorem oneP_len1 {l : List Rw} (x : OpR) : (oneP l x).1.length ≤ l.length + 1 := by
  have hp := pos_le x.key l
  unfold oneP writeP
  dsimp only
  split
  · simp
  · split
    · split
      · simp
      · split
        · simp
        · split
          · simp
          · simp; omega
    · split
      · simp
      · split
        · simp
        · split
          · simp
          · split
            · simp
            · split
              · simp
              · simp
                split <;> omega
theorem stP_len1 (l : List Rw) (xs : List OpR) : (stP l xs).length ≤ l.length + xs.length := by
  induction xs generalizing l with
  | nil => simp [stP]
  | cons y ys ih =>
    have h1 := ih (oneP l y).1
    have h2 := oneP_len1 (l := l) y
    simp only [stP, List.length_cons]
    omega
theorem doP_len1 (l : List Rw) (ops : List OpR) : (doP l ops).rows.length ≤ l.length + 32 := by
  unfold doP
  split
  · simp
  · split
    · simp
    · split
      · simp
      · have := stP_len1 l ops
        simp only
        omega
theorem doP_sorted {l : List Rw} (h : Sorted l) (ops : List OpR) : Sorted (doP l ops).rows := by
  unfold doP
  split
  · exact h
  · split
    · exact h
    · split
      · exact h
      · exact stP_sorted h ops
theorem playP_len1 (l : List Rw) (xs : List (List OpR)) : (playP l xs).length ≤ l.length + 32 * xs.length := by
  induction xs generalizing l with
  | nil => simp [playP]
  | cons y ys ih =>
    have h1 := ih (doP l y).rows
    have h2 := doP_len1 l y
    simp only [playP, List.length_cons]
    omega
theorem playP_sorted {l : List Rw} (h : Sorted l) (xs : List (List OpR)) : Sorted (playP l xs) := by
  induction xs generalizing l with
  | nil => exact h
  | cons y ys ih => exact ih (doP_sorted h y)
theorem played_len (xs : List (List OpR)) : (playP [] (xs.take 40)).length ≤ 1280 := by
  have h := playP_len1 [] (xs.take 40)
  have h2 : (xs.take 40).length ≤ 40 := List.length_take_le _ _
  simp only [List.length_nil] at h
  omega
theorem played_sorted (xs : List (List OpR)) : Sorted (playP [] (xs.take 40)) := playP_sorted List.Pairwise.nil _

theorem doP_one (l : List Rw) (x : OpR) : doP l [x] = if opOk x then ⟨(oneP l x).1, [(oneP l x).2], 0, 0⟩ else ⟨l, [], 0, 80⟩ := by
  unfold doP
  rw [if_neg (by simp)]
  cases h : opOk x with
  | true => simp [h, stP, reP]
  | false => simp [h, fidx, List.findIdx, List.findIdx.go]

/-- Operations on unlike keys do not hang on their order. -/
theorem apart {l : List Rw} (h : Sorted l) (hl : l.length < 4095) {a b : OpR} (ha : a.kind ≠ 6) (hb : b.kind ≠ 6) (hk : a.key ≠ b.key) :
    (oneP (oneP l a).1 b).2 = (oneP l b).2 ∧ (oneP (oneP l b).1 a).2 = (oneP l a).2 ∧ (oneP (oneP l a).1 b).1 = (oneP (oneP l b).1 a).1 := by
  have la := oneP_len1 (l := l) a
  have lb := oneP_len1 (l := l) b
  have sa := oneP_sorted h a
  have sb := oneP_sorted h b
  obtain ⟨a1, a2⟩ := oneP_get h (by omega) a ha
  obtain ⟨b1, b2⟩ := oneP_get h (by omega) b hb
  obtain ⟨c1, c2⟩ := oneP_get sa (by omega) b hb
  obtain ⟨d1, d2⟩ := oneP_get sb (by omega) a ha
  have e1 : get (oneP l a).1 b.key = get l b.key := by rw [a2, if_neg (Ne.symm hk)]
  have e2 : get (oneP l b).1 a.key = get l a.key := by rw [b2, if_neg hk]
  refine ⟨by rw [c1, e1, b1], by rw [d1, e2, a1], get_ext (oneP_sorted sa b) (oneP_sorted sb a) fun k => ?_⟩
  rw [c2, d2, e1, e2, a2, b2]
  by_cases h1 : k = b.key
  · have h2 : k ≠ a.key := fun e => hk (e.symm.trans h1)
    rw [if_pos h1, if_neg h2, if_pos h1]
  · rw [if_neg h1, if_neg h1]

structure Apart (l : List Rw) (a b : OpR) : Prop where
  at1 : (doP l [a]).at_ = (doP (doP l [b]).rows [a]).at_
  code1 : (doP l [a]).code = (doP (doP l [b]).rows [a]).code
  res1 : (doP l [a]).res = (doP (doP l [b]).rows [a]).res
  at2 : (doP (doP l [a]).rows [b]).at_ = (doP l [b]).at_
  code2 : (doP (doP l [a]).rows [b]).code = (doP l [b]).code
  res2 : (doP (doP l [a]).rows [b]).res = (doP l [b]).res
  rows : (doP (doP l [a]).rows [b]).rows = (doP (doP l [b]).rows [a]).rows
theorem apart_do {l : List Rw} (h : Sorted l) (hl : l.length < 4095) {a b : OpR} (ha : a.kind ≠ 6) (hb : b.kind ≠ 6) (hk : a.key ≠ b.key) : Apart l a b := by
  obtain ⟨h1, h2, h3⟩ := apart h hl ha hb hk
  cases oa : opOk a <;> cases ob : opOk b <;> constructor <;> simp [doP_one, oa, ob, h1, h2, h3]
theorem doP_res_rows {l : List Rw} (h : l.length ≤ 4096) (hs : Sorted l) (ops : List OpR) : ∀ r ∈ (doP l ops).res, r.rows.length ≤ 140737488355328 := by
  have one : ∀ (l : List Rw) (x : OpR), l.length ≤ 4096 → (oneP l x).2.rows.length ≤ 4096 := by
    intro l x hl
    unfold oneP writeP
    dsimp only
    split
    · simp; omega
    · split
      · split
        · simp [Res.fail]
        · split
          · simp [Res.fail]
          · split
            · simp
            · simp [Res.fail]
      · split
        · simp [Res.fail]
        · split
          · simp [Res.fail]
          · split
            · simp [Res.fail]
            · split
              · simp [Res.fail]
              · split
                · simp [Res.fail]
                · simp [Res.fail]
  have all : ∀ (xs : List OpR) (l : List Rw), Sorted l → l.length ≤ 4096 → ∀ r ∈ reP l xs, r.rows.length ≤ 4096 := by
    intro xs
    induction xs with
    | nil => intro l _ _ r hr; cases hr
    | cons y ys ih =>
      intro l hs hl r hr
      rcases List.mem_cons.1 hr with rfl | hr
      · exact one l y hl
      · exact ih _ (oneP_sorted hs y) (oneP_len hs hl y) r hr
  intro r hr
  unfold doP at hr
  split at hr
  · cases hr
  · split at hr
    · cases hr
    · split at hr
      · cases hr
      · have := all ops l hs h r hr
        omega
end Go.Proofs.YtallnibjmffahaaGreatDoor

set_option linter.unusedVariables false
set_option linter.unusedSimpArgs false
namespace Go.Proofs.YtallnibjmffahaaGreatDoor

def RowsOk (l : List Rw) : Prop := ∀ r ∈ l, rowOk r = true
theorem rowOk_key {r : Rw} (h : rowOk r = true) : r.key.size ≤ 64 := by
  simp [rowOk] at h
  omega
theorem writeP_ok {l : List Rw} (h : RowsOk l) {x : OpR} (hx : opOk x = true) (h4 : x.kind ≠ 4) (h5 : x.kind ≠ 5) (h6 : x.kind ≠ 6) : RowsOk (writeP l x).1 := by
  unfold writeP
  dsimp only
  split
  · exact h
  · split
    · exact h
    · split
      · exact h
      · split
        · exact h
        · rename_i hv
          split
          · exact h
          · intro r hr
            rw [List.mem_append, List.mem_append, List.mem_singleton] at hr
            rcases hr with (hr | rfl) | hr
            · exact h r (List.mem_of_mem_take hr)
            · unfold opOk at hx
              have : keyOk x.key = true ∧ numOk x.stamp 1 = true := by
                split at hx
                · simp only [Bool.and_eq_true] at hx
                  exact ⟨hx.1.1.1.1.1, hx.1.1.2⟩
                · split at hx
                  · simp only [Bool.and_eq_true] at hx
                    exact ⟨hx.1.1.1.1, hx.1.2⟩
                  · simp [h4, h5, h6] at hx
              obtain ⟨h1, h2⟩ := this
              simp [keyOk] at h1
              simp [numOk] at h2
              have h3 : ¬ x.key = ByteArray.empty := by
                intro e
                rw [e] at h1
                simp at h1
              simp [rowOk, h3]
              omega
            · exact h r (List.mem_of_mem_drop hr)
theorem oneP_ok {l : List Rw} (h : RowsOk l) {x : OpR} (hx : opOk x = true) : RowsOk (oneP l x).1 := by
  by_cases h6 : x.kind = 6
  · simp only [oneP, if_pos h6]
    exact h
  by_cases h45 : x.kind = 4 ∨ x.kind = 5
  · unfold oneP
    dsimp only
    rw [if_neg h6, if_pos h45]
    split
    · exact h
    · split
      · exact h
      · split
        · exact h
        · intro r hr
          rcases List.mem_append.1 hr with hr | hr
          · exact h r (List.mem_of_mem_take hr)
          · exact h r (List.mem_of_mem_drop hr)
  · unfold oneP
    dsimp only
    rw [if_neg h6, if_neg h45]
    exact writeP_ok h hx (fun e => h45 (.inl e)) (fun e => h45 (.inr e)) h6
theorem stP_ok {l : List Rw} (h : RowsOk l) {xs : List OpR} (hx : ∀ x ∈ xs, opOk x = true) : RowsOk (stP l xs) := by
  induction xs generalizing l with
  | nil => exact h
  | cons y ys ih => exact ih (oneP_ok h (hx y List.mem_cons_self)) (fun x hm => hx x (List.mem_cons_of_mem _ hm))
theorem doP_rowsOk {l : List Rw} (h : RowsOk l) (ops : List OpR) : RowsOk (doP l ops).rows := by
  unfold doP
  split
  · exact h
  · split
    · exact h
    · rename_i hany
      split
      · exact h
      · refine stP_ok h fun x hx => ?_
        cases ho : opOk x with
        | true => rfl
        | false => exact absurd (List.any_eq_true.2 ⟨x, hx, by rw [ho]; rfl⟩) hany
theorem playP_rowsOk {l : List Rw} (h : RowsOk l) (xs : List (List OpR)) : RowsOk (playP l xs) := by
  induction xs generalizing l with
  | nil => exact h
  | cons y ys ih => exact ih (doP_rowsOk h y)
theorem played_rowsOk (xs : List (List OpR)) : RowsOk (playP [] (xs.take 40)) := playP_rowsOk (fun _ h => by cases h) _
end Go.Proofs.YtallnibjmffahaaGreatDoor

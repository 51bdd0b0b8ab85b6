/- The table in plain Lean: operations on unlike keys; how many rows there are. -/
import Derived.Test.YtlhjfblpinpjiaaTq
import Derived.Test.YtlhjfblpinpjiaaTl2
set_option linter.unusedVariables false
set_option linter.unusedSimpArgs false
namespace Go.Proofs.Ytlhjfblpinpjiaa

theorem oneP_len1 {l : List Rw} (x : OpR) : (oneP l x).1.length ≤ l.length + 1 := by
  have hp := pos_le x.key l
  unfold oneP writeP
  dsimp only
  split
  · simp
  · split
    · split
      · simp
      · split
        · simp
        · split
          · simp
          · simp; omega
    · split
      · simp
      · split
        · simp
        · split
          · simp
          · split
            · simp
            · split
              · simp
              · simp
                split <;> omega
theorem stP_len1 (l : List Rw) (xs : List OpR) : (stP l xs).length ≤ l.length + xs.length := by
  induction xs generalizing l with
  | nil => simp [stP]
  | cons y ys ih =>
    have h1 := ih (oneP l y).1
    have h2 := oneP_len1 (l := l) y
    simp only [stP, List.length_cons]
    omega
theorem doP_len1 (l : List Rw) (ops : List OpR) : (doP l ops).rows.length ≤ l.length + 32 := by
  unfold doP
  split
  · simp
  · split
    · simp
    · split
      · simp
      · have := stP_len1 l ops
        simp only
        omega
theorem doP_sorted {l : List Rw} (h : Sorted l) (ops : List OpR) : Sorted (doP l ops).rows := by
  unfold doP
  split
  · exact h
  · split
    · exact h
    · split
      · exact h
      · exact stP_sorted h ops
theorem playP_len1 (l : List Rw) (xs : List (List OpR)) : (playP l xs).length ≤ l.length + 32 * xs.length := by
  induction xs generalizing l with
  | nil => simp [playP]
  | cons y ys ih =>
    have h1 := ih (doP l y).rows
    have h2 := doP_len1 l y
    simp only [playP, List.length_cons]
    omega
theorem playP_sorted {l : List Rw} (h : Sorted l) (xs : List (List OpR)) : Sorted (playP l xs) := by
  induction xs generalizing l with
  | nil => exact h
  | cons y ys ih => exact ih (doP_sorted h y)
theorem played_len (xs : List (List OpR)) : (playP [] (xs.take 40)).length ≤ 1280 := by
  have h := playP_len1 [] (xs.take 40)
  have h2 : (xs.take 40).length ≤ 40 := List.length_take_le _ _
  simp only [List.length_nil] at h
  omega
theorem played_sorted (xs : List (List OpR)) : Sorted (playP [] (xs.take 40)) := playP_sorted List.Pairwise.nil _

theorem doP_one (l : List Rw) (x : OpR) : doP l [x] = if opOk x then ⟨(oneP l x).1, [(oneP l x).2], 0, 0⟩ else ⟨l, [], 0, 80⟩ := by
  unfold doP
  rw [if_neg (by simp)]
  cases h : opOk x with
  | true => simp [h, stP, reP]
  | false => simp [h, fidx, List.findIdx, List.findIdx.go]

/-- Operations on unlike keys do not hang on their order. -/
theorem apart {l : List Rw} (h : Sorted l) (hl : l.length < 4095) {a b : OpR} (ha : a.kind ≠ 6) (hb : b.kind ≠ 6) (hk : a.key ≠ b.key) :
    (oneP (oneP l a).1 b).2 = (oneP l b).2 ∧ (oneP (oneP l b).1 a).2 = (oneP l a).2 ∧ (oneP (oneP l a).1 b).1 = (oneP (oneP l b).1 a).1 := by
  have la := oneP_len1 (l := l) a
  have lb := oneP_len1 (l := l) b
  have sa := oneP_sorted h a
  have sb := oneP_sorted h b
  obtain ⟨a1, a2⟩ := oneP_get h (by omega) a ha
  obtain ⟨b1, b2⟩ := oneP_get h (by omega) b hb
  obtain ⟨c1, c2⟩ := oneP_get sa (by omega) b hb
  obtain ⟨d1, d2⟩ := oneP_get sb (by omega) a ha
  have e1 : get (oneP l a).1 b.key = get l b.key := by rw [a2, if_neg (Ne.symm hk)]
  have e2 : get (oneP l b).1 a.key = get l a.key := by rw [b2, if_neg hk]
  refine ⟨by rw [c1, e1, b1], by rw [d1, e2, a1], get_ext (oneP_sorted sa b) (oneP_sorted sb a) fun k => ?_⟩
  rw [c2, d2, e1, e2, a2, b2]
  by_cases h1 : k = b.key
  · have h2 : k ≠ a.key := fun e => hk (e.symm.trans h1)
    rw [if_pos h1, if_neg h2, if_pos h1]
  · rw [if_neg h1, if_neg h1]

structure Apart (l : List Rw) (a b : OpR) : Prop where
  at1 : (doP l [a]).at_ = (doP (doP l [b]).rows [a]).at_
  code1 : (doP l [a]).code = (doP (doP l [b]).rows [a]).code
  res1 : (doP l [a]).res = (doP (doP l [b]).rows [a]).res
  at2 : (doP (doP l [a]).rows [b]).at_ = (doP l [b]).at_
  code2 : (doP (doP l [a]).rows [b]).code = (doP l [b]).code
  res2 : (doP (doP l [a]).rows [b]).res = (doP l [b]).res
  rows : (doP (doP l [a]).rows [b]).rows = (doP (doP l [b]).rows [a]).rows
theorem apart_do {l : List Rw} (h : Sorted l) (hl : l.length < 4095) {a b : OpR} (ha : a.kind ≠ 6) (hb : b.kind ≠ 6) (hk : a.key ≠ b.key) : Apart l a b := by
  obtain ⟨h1, h2, h3⟩ := apart h hl ha hb hk
  cases oa : opOk a <;> cases ob : opOk b <;> constructor <;> simp [doP_one, oa, ob, h1, h2, h3]
theorem doP_res_rows {l : List Rw} (h : l.length ≤ 4096) (hs : Sorted l) (ops : List OpR) : ∀ r ∈ (doP l ops).res, r.rows.length ≤ 140737488355328 := by
  have one : ∀ (l : List Rw) (x : OpR), l.length ≤ 4096 → (oneP l x).2.rows.length ≤ 4096 := by
    intro l x hl
    unfold oneP writeP
    dsimp only
    split
    · simp; omega
    · split
      · split
        · simp [Res.fail]
        · split
          · simp [Res.fail]
          · split
            · simp
            · simp [Res.fail]
      · split
        · simp [Res.fail]
        · split
          · simp [Res.fail]
          · split
            · simp [Res.fail]
            · split
              · simp [Res.fail]
              · split
                · simp [Res.fail]
                · simp [Res.fail]
  have all : ∀ (xs : List OpR) (l : List Rw), Sorted l → l.length ≤ 4096 → ∀ r ∈ reP l xs, r.rows.length ≤ 4096 := by
    intro xs
    induction xs with
    | nil => intro l _ _ r hr; cases hr
    | cons y ys ih =>
      intro l hs hl r hr
      rcases List.mem_cons.1 hr with rfl | hr
      · exact one l y hl
      · exact ih _ (oneP_sorted hs y) (oneP_len hs hl y) r hr
  intro r hr
  unfold doP at hr
  split at hr
  · cases hr
  · split at hr
    · cases hr
    · split at hr
      · cases hr
      · have := all ops l hs h r hr
        omega
end Go.Proofs.Ytlhjfblpinpjiaa

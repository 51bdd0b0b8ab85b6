/- The table in plain Lean: each row that stands in a table may be (rowOk). -/
import Derived.Test.YtehfaeafefkngaaTr
set_option linter.unusedVariables false
set_option linter.unusedSimpArgs false
namespace Go.Proofs.Ytehfaeafefkngaa

def RowsOk (l : List Rw) : Prop := ∀ r ∈ l, rowOk r = true
theorem rowOk_key {r : Rw} (h : rowOk r = true) : r.key.size ≤ 64 := by
  simp [rowOk] at h
  omega
theorem writeP_ok {l : List Rw} (h : RowsOk l) {x : OpR} (hx : opOk x = true) (h4 : x.kind ≠ 4) (h5 : x.kind ≠ 5) (h6 : x.kind ≠ 6) : RowsOk (writeP l x).1 := by
  unfold writeP
  dsimp only
  split
  · exact h
  · split
    · exact h
    · split
      · exact h
      · split
        · exact h
        · rename_i hv
          split
          · exact h
          · intro r hr
            rw [List.mem_append, List.mem_append, List.mem_singleton] at hr
            rcases hr with (hr | rfl) | hr
            · exact h r (List.mem_of_mem_take hr)
            · unfold opOk at hx
              have : keyOk x.key = true ∧ numOk x.stamp 1 = true := by
                split at hx
                · simp only [Bool.and_eq_true] at hx
                  exact ⟨hx.1.1.1.1.1, hx.1.1.2⟩
                · split at hx
                  · simp only [Bool.and_eq_true] at hx
                    exact ⟨hx.1.1.1.1, hx.1.2⟩
                  · simp [h4, h5, h6] at hx
              obtain ⟨h1, h2⟩ := this
              simp [keyOk] at h1
              simp [numOk] at h2
              have h3 : ¬ x.key = ByteArray.empty := by
                intro e
                rw [e] at h1
                simp at h1
              simp [rowOk, h3]
              omega
            · exact h r (List.mem_of_mem_drop hr)
theorem oneP_ok {l : List Rw} (h : RowsOk l) {x : OpR} (hx : opOk x = true) : RowsOk (oneP l x).1 := by
  by_cases h6 : x.kind = 6
  · simp only [oneP, if_pos h6]
    exact h
  by_cases h45 : x.kind = 4 ∨ x.kind = 5
  · unfold oneP
    dsimp only
    rw [if_neg h6, if_pos h45]
    split
    · exact h
    · split
      · exact h
      · split
        · exact h
        · intro r hr
          rcases List.mem_append.1 hr with hr | hr
          · exact h r (List.mem_of_mem_take hr)
          · exact h r (List.mem_of_mem_drop hr)
  · unfold oneP
    dsimp only
    rw [if_neg h6, if_neg h45]
    exact writeP_ok h hx (fun e => h45 (.inl e)) (fun e => h45 (.inr e)) h6
theorem stP_ok {l : List Rw} (h : RowsOk l) {xs : List OpR} (hx : ∀ x ∈ xs, opOk x = true) : RowsOk (stP l xs) := by
  induction xs generalizing l with
  | nil => exact h
  | cons y ys ih => exact ih (oneP_ok h (hx y List.mem_cons_self)) (fun x hm => hx x (List.mem_cons_of_mem _ hm))
theorem doP_rowsOk {l : List Rw} (h : RowsOk l) (ops : List OpR) : RowsOk (doP l ops).rows := by
  unfold doP
  split
  · exact h
  · split
    · exact h
    · rename_i hany
      split
      · exact h
      · refine stP_ok h fun x hx => ?_
        cases ho : opOk x with
        | true => rfl
        | false => exact absurd (List.any_eq_true.2 ⟨x, hx, by rw [ho]; rfl⟩) hany
theorem playP_rowsOk {l : List Rw} (h : RowsOk l) (xs : List (List OpR)) : RowsOk (playP l xs) := by
  induction xs generalizing l with
  | nil => exact h
  | cons y ys ih => exact ih (doP_rowsOk h y)
theorem played_rowsOk (xs : List (List OpR)) : RowsOk (playP [] (xs.take 40)) := playP_rowsOk (fun _ h => by cases h) _
end Go.Proofs.Ytehfaeafefkngaa

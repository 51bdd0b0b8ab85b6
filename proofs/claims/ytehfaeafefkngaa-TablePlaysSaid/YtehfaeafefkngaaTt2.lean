/- Take in plain Lean: two sorted lists of rows put together, the second's rows win. -/
import Derived.Test.YtehfaeafefkngaaTs
set_option linter.unusedVariables false
set_option linter.unusedSimpArgs false
namespace Go.Proofs.Ytehfaeafefkngaa

/-- One row taken: what is put out, and what rests. -/
def mStep (p : List Rw × List Rw) (r : Rw) : List Rw × List Rw :=
  (p.1 ++ p.2.take (pos r.key p.2) ++ [r], p.2.drop (if there r.key p.2 then pos r.key p.2 + 1 else pos r.key p.2))
def mState (l rs : List Rw) : List Rw × List Rw := rs.foldl mStep ([], l)
def mergeP (l rs : List Rw) : List Rw := (mState l rs).1 ++ (mState l rs).2
theorem mState_snoc (l rs : List Rw) (r : Rw) : mState l (rs ++ [r]) = mStep (mState l rs) r := by simp [mState]

/-- What holds behind the rows rs, of which more stand behind. -/
structure MInv (l rs more : List Rw) : Prop where
  srt : Sorted (mergeP l rs)
  low : ∀ q ∈ (mState l rs).1, ∀ r ∈ more, klt q.key r.key
  mem : ∀ q, q ∈ mergeP l rs ↔ q ∈ rs ∨ (q ∈ l ∧ ∀ r ∈ rs, r.key ≠ q.key)
  suf : ∃ k, k ≤ l.length ∧ (mState l rs).2 = l.drop k
theorem sorted_app {l m : List Rw} : Sorted (l ++ m) ↔ Sorted l ∧ Sorted m ∧ ∀ q ∈ l, ∀ r ∈ m, klt q.key r.key := List.pairwise_append
theorem MInv.start (l more : List Rw) (h : Sorted l) : MInv l [] more :=
  ⟨h, fun q hq => (by cases hq), fun q => by simp [mergeP, mState], ⟨0, Nat.zero_le _, rfl⟩⟩
theorem MInv.step {l rs more : List Rw} {r : Rw} (h : MInv l rs (r :: more)) (hs : ∀ q ∈ more, klt r.key q.key) (hr : ∀ q ∈ rs, klt q.key r.key) : MInv l (rs ++ [r]) more := by
  obtain ⟨hsrt, hlow, hmem, ⟨k, hk, hsuf⟩⟩ := h
  unfold mergeP at hsrt hmem
  generalize hp : mState l rs = p at *
  obtain ⟨out, rest⟩ := p
  simp only at *
  have e : mState l (rs ++ [r]) = (out ++ rest.take (pos r.key rest) ++ [r], rest.drop (if there r.key rest then pos r.key rest + 1 else pos r.key rest)) := by rw [mState_snoc, hp]; rfl
  obtain ⟨so, sr, sor⟩ := sorted_app.1 hsrt
  have hput := mem_put sr r
  have hsp : Sorted (rest.take (pos r.key rest) ++ [r] ++ rest.drop (if there r.key rest then pos r.key rest + 1 else pos r.key rest)) := by
    cases ht : there r.key rest with
    | true => exact sorted_put sr r _ (by simp) (by simpa using drop_succ_pos sr ht)
    | false => exact sorted_put sr r _ (by simp) (by simpa using notthere_drop sr ht)
  have hmp : mergeP l (rs ++ [r]) = out ++ (rest.take (pos r.key rest) ++ [r] ++ rest.drop (if there r.key rest then pos r.key rest + 1 else pos r.key rest)) := by
    unfold mergeP; rw [e]; simp
  refine ⟨?_, ?_, ?_, ?_⟩
  · rw [hmp]
    refine sorted_app.2 ⟨so, hsp, fun q hq x hx => ?_⟩
    rcases (hput x).1 hx with rfl | ⟨hx, _⟩
    · exact hlow q hq x List.mem_cons_self
    · exact sor q hq x hx
  · rw [e]
    intro q hq x hx
    simp only [List.mem_append, List.mem_singleton] at hq
    rcases hq with (hq | hq) | rfl
    · exact hlow q hq x (List.mem_cons_of_mem _ hx)
    · exact klt_trans (take_pos r.key rest sr q hq) (hs x hx)
    · exact hs x hx
  · intro q
    rw [hmp, List.mem_append, hput]
    constructor
    · rintro (hq | rfl | ⟨hq, hne⟩)
      · have hlt := hlow q hq r List.mem_cons_self
        rcases (hmem q).1 (List.mem_append_left _ hq) with h1 | ⟨h1, h2⟩
        · exact .inl (List.mem_append_left _ h1)
        · refine .inr ⟨h1, fun x hx => ?_⟩
          rcases List.mem_append.1 hx with hx | hx
          · exact h2 x hx
          · rw [List.mem_singleton.1 hx]; exact (klt_ne hlt).symm
      · exact .inl (by simp)
      · rcases (hmem q).1 (List.mem_append_right _ hq) with h1 | ⟨h1, h2⟩
        · exact .inl (List.mem_append_left _ h1)
        · refine .inr ⟨h1, fun x hx => ?_⟩
          rcases List.mem_append.1 hx with hx | hx
          · exact h2 x hx
          · rw [List.mem_singleton.1 hx]; exact hne.symm
    · rintro (hq | ⟨hq, hne⟩)
      · rcases List.mem_append.1 hq with hq | hq
        · rcases List.mem_append.1 ((hmem q).2 (.inl hq)) with h1 | h1
          · exact .inl h1
          · by_cases e : q.key = r.key
            · exact absurd e (klt_ne (hr q hq))
            · exact .inr (.inr ⟨h1, e⟩)
        · exact .inr (.inl (List.mem_singleton.1 hq))
      · rcases List.mem_append.1 ((hmem q).2 (.inr ⟨hq, fun x hx => hne x (List.mem_append_left _ hx)⟩)) with h1 | h1
        · exact .inl h1
        · exact .inr (.inr ⟨h1, (hne r (by simp)).symm⟩)
  · refine ⟨k + (if there r.key rest then pos r.key rest + 1 else pos r.key rest), ?_, ?_⟩
    · have hl : rest.length = l.length - k := by rw [hsuf, List.length_drop]
      have := pos_le r.key rest
      cases ht : there r.key rest with
      | true => have := (pos_lt sr ht).1; simp; omega
      | false => simp; omega
    · rw [e, hsuf, List.drop_drop]

theorem merge_inv {l rows : List Rw} (hl : Sorted l) (hr : Sorted rows) : ∀ k, k ≤ rows.length → MInv l (rows.take k) (rows.drop k)
  | 0, _ => by simpa using MInv.start l rows hl
  | k + 1, hk => by
    have ih := merge_inv hl hr k (by omega)
    rw [List.drop_eq_getElem_cons (by omega)] at ih
    rw [List.take_succ_eq_append_getElem (by omega)]
    refine ih.step (fun q hq => ?_) (fun q hq => ?_)
    · obtain ⟨i, hi, rfl⟩ := List.mem_drop_iff_getElem.1 hq
      exact List.pairwise_iff_getElem.1 hr k (k + 1 + i) (by omega) (by omega) (by omega)
    · obtain ⟨i, hi, rfl⟩ := List.mem_take_iff_getElem.1 hq
      exact List.pairwise_iff_getElem.1 hr i k (by omega) (by omega) (by omega)
theorem merge_all {l rows : List Rw} (hl : Sorted l) (hr : Sorted rows) : MInv l rows [] := by
  have := merge_inv hl hr rows.length (Nat.le_refl _)
  rwa [List.take_length, List.drop_length] at this
theorem merge_sorted {l rows : List Rw} (hl : Sorted l) (hr : Sorted rows) : Sorted (mergeP l rows) := (merge_all hl hr).srt
theorem merge_get {l rows : List Rw} (hl : Sorted l) (hr : Sorted rows) (k : ByteArray) : get (mergeP l rows) k = match get rows k with | some r => some r | none => get l k := by
  have hM := merge_all hl hr
  cases hg : get rows k with
  | some r =>
    obtain ⟨h1, h2⟩ := (get_some hr).1 hg
    exact (get_some hM.srt).2 ⟨(hM.mem r).2 (.inl h1), h2⟩
  | none =>
    have hn := get_none.1 hg
    dsimp only
    cases hq : get l k with
    | some r =>
      obtain ⟨h1, h2⟩ := (get_some hl).1 hq
      exact (get_some hM.srt).2 ⟨(hM.mem r).2 (.inr ⟨h1, fun x hx => by rw [h2]; exact hn x hx⟩), h2⟩
    | none =>
      refine get_none.2 fun r hr' e => ?_
      rcases (hM.mem r).1 hr' with h1 | ⟨h1, _⟩
      · exact hn r h1 e
      · exact get_none.1 hq r h1 e
theorem mState_len (l rs : List Rw) : (mState l rs).1.length + (mState l rs).2.length ≤ l.length + rs.length := by
  unfold mState
  suffices h : ∀ (rs : List Rw) (p : List Rw × List Rw), (rs.foldl mStep p).1.length + (rs.foldl mStep p).2.length ≤ p.1.length + p.2.length + rs.length by
    have := h rs ([], l)
    simpa using this
  intro rs
  induction rs with
  | nil => intro p; simp
  | cons r rs ih =>
    intro p
    have h1 := ih (mStep p r)
    have h2 := pos_le r.key p.2
    have h3 : (mStep p r).1.length + (mStep p r).2.length ≤ p.1.length + p.2.length + 1 := by
      unfold mStep
      simp only [List.length_append, List.length_take, List.length_drop, List.length_singleton]
      split <;> omega
    simp only [List.foldl_cons, List.length_cons]
    omega
instance (l : List Rw) : Decidable (Sorted l) := inferInstanceAs (Decidable (l.Pairwise fun a b => klt a.key b.key))
/-- What Take tells, and what it leaves. -/
def takeP (l rows : List Rw) : Int × List Rw :=
  if (rows.any fun r => !rowOk r) = true then (80, l)
  else if ¬ Sorted rows then (4, l)
  else if 4096 < (mergeP l rows).length then (22, l)
  else (0, mergeP l rows)
theorem takeP_sorted {l : List Rw} (h : Sorted l) (rows : List Rw) : Sorted (takeP l rows).2 := by
  unfold takeP
  split
  · exact h
  · split
    · exact h
    · rename_i hs
      split
      · exact h
      · exact merge_sorted h (Classical.byContradiction hs)
theorem takeP_len {l : List Rw} (h : l.length ≤ 4096) (rows : List Rw) : (takeP l rows).2.length ≤ 4096 := by
  unfold takeP
  split
  · exact h
  · split
    · exact h
    · split
      · exact h
      · simpa using (by omega : (mergeP l rows).length ≤ 4096)
end Go.Proofs.Ytehfaeafefkngaa

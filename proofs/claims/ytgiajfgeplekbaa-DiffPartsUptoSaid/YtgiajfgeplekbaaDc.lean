/- DiffCovers, in plain Lean: of which part a key is. -/
import Derived.Test.YtgiajfgeplekbaaDh
set_option linter.unusedVariables false
set_option linter.unusedSimpArgs false
namespace Go.Proofs.Ytgiajfgeplekbaa

/-- How many rows stand at or below a key. -/
def upTo (rows : List Rw) (key : ByteArray) : Nat := rows.countP fun r => !decide (klt key r.key)
/-- The part of a key. -/
def idx (rows : List Rw) (mn : Nat) (key : ByteArray) : Nat := (upTo rows key - 1) / mn
theorem upTo_spec {rows : List Rw} (h : Sorted rows) (key : ByteArray) (t : Nat) (ht : t < rows.length) : klt key rows[t].key ↔ upTo rows key ≤ t := by
  induction rows generalizing t with
  | nil => simp at ht
  | cons r l ih =>
    have ih := ih h.tail
    unfold upTo at *
    rw [List.countP_cons]
    by_cases hk : klt key r.key
    · have hz : (l.countP fun r => !decide (klt key r.key)) = 0 := by
        rw [List.countP_eq_zero]
        intro q hq
        simpa using klt_trans hk (h.head q hq)
      rw [hz]
      simp only [hk, decide_true, Bool.not_true, Bool.false_eq_true, if_false, Nat.add_zero, Nat.zero_le, iff_true]
      cases t with
      | zero => exact hk
      | succ t => exact klt_trans hk (h.head _ (List.getElem_mem _))
    · simp only [hk, decide_false, Bool.not_false, if_true]
      cases t with
      | zero => simp [hk]
      | succ t =>
        have := ih t (by simpa using ht)
        simp only [List.getElem_cons_succ]
        rw [this]
        omega
theorem upTo_le (rows : List Rw) (key : ByteArray) : upTo rows key ≤ rows.length := List.countP_le_length
theorem keyAt_lt {rows : List Rw} (h : Sorted rows) (key : ByteArray) {i : Nat} (hi : i = 0 ∨ i < rows.length) : klt key (keyAt rows i) ↔ i ≠ 0 ∧ upTo rows key ≤ i := by
  unfold keyAt
  by_cases h0 : i = 0
  · rw [if_pos h0]
    simp [h0, not_lt_nil]
  · have hil := hi.resolve_left h0
    rw [if_neg h0, List.getD_eq_getElem?_getD, List.getElem?_eq_getElem hil, Option.getD_some, upTo_spec h key i hil]
    simp [h0]
theorem idx_le {rows : List Rw} {mn : Nat} (key : ByteArray) : idx rows mn key ≤ partsN rows mn := by
  unfold idx partsN
  have := upTo_le rows key
  exact Nat.div_le_div_right (by omega)
theorem keyAt_size {rows : List Rw} (ho : RowsOk rows) {i : Nat} (h0 : i ≠ 0) (hi : i < rows.length) : (keyAt rows i).size ≠ 0 ∧ (keyAt rows i).size ≤ 64 := by
  unfold keyAt
  rw [if_neg h0, List.getD_eq_getElem?_getD, List.getElem?_eq_getElem hi, Option.getD_some]
  have := ho rows[i] (List.getElem_mem hi)
  unfold rowOk at this
  simp only [Bool.and_eq_true, decide_eq_true_eq] at this
  omega
theorem partsL_len (rows : List Rw) (mn : Nat) : (partsL rows mn).length = partsN rows mn + 1 := by simp [partsL, outP]
theorem partsN_lt {rows : List Rw} {mn j : Nat} (hm : 1 ≤ mn) (hj : j ≤ partsN rows mn) : j * mn = 0 ∨ j * mn < rows.length := by
  unfold partsN at hj
  by_cases h0 : rows.length = 0
  · left
    rw [h0] at hj
    simp at hj
    simp [hj]
  · right
    have := Nat.mul_le_mul_right mn hj
    have := Nat.div_mul_le_self (rows.length - 1) mn
    omega
/-- A part, by its number. -/
theorem partsL_get {rows : List Rw} {mn i : Nat} (hi : i < (partsL rows mn).length) : (partsL rows mn)[i] = ⟨keyAt rows (i * mn), if i = partsN rows mn then ⟨#[]⟩ else keyAt rows ((i + 1) * mn)⟩ := by
  have hl := partsL_len rows mn
  unfold partsL at hi ⊢
  by_cases h : i < partsN rows mn
  · rw [List.getElem_append_left (by simpa [outP] using h)]
    simp only [outP, List.getElem_map, List.getElem_range, partAt]
    rw [if_neg (by omega)]
  · have : i = partsN rows mn := by simp [outP] at hi; omega
    subst this
    rw [List.getElem_append_right (by simp [outP])]
    simp [outP]
theorem has_part {rows : List Rw} (h : Sorted rows) (ho : RowsOk rows) {mn : Nat} (hm : 1 ≤ mn) (key : ByteArray) {i : Nat} (hi : i < (partsL rows mn).length) : hasP key (partsL rows mn)[i] = decide (i = idx rows mn key) := by
  have hlen := partsL_len rows mn
  have hiJ : i ≤ partsN rows mn := by omega
  have hp := upTo_le rows key
  rw [partsL_get hi]
  unfold hasP
  simp only
  have h1 := keyAt_lt h key (i := i * mn) (partsN_lt hm hiJ)
  have hidx := idx_le (rows := rows) (mn := mn) key
  have e1 : (¬ klt key (keyAt rows (i * mn))) ↔ i ≤ idx rows mn key := by
    rw [h1]
    unfold idx
    rw [Nat.le_div_iff_mul_le (by omega)]
    omega
  by_cases hJ : i = partsN rows mn
  · rw [if_pos hJ]
    have hz : (⟨#[]⟩ : ByteArray).size = 0 := rfl
    rw [decide_eq_true hz, Bool.true_or, Bool.and_true, ← decide_not, decide_eq_decide, e1]
    omega
  · rw [if_neg hJ]
    have hlt : (i + 1) * mn < rows.length := by
      rcases partsN_lt hm (show i + 1 ≤ partsN rows mn by omega) with h0 | h0
      · have := Nat.le_mul_of_pos_left mn (show 0 < i + 1 by omega); omega
      · exact h0
    have hne : (i + 1) * mn ≠ 0 := by
      have := Nat.le_mul_of_pos_left mn (show 0 < i + 1 by omega); omega
    have h2 := keyAt_lt h key (i := (i + 1) * mn) (.inr hlt)
    have hs := keyAt_size ho hne hlt
    have e2 : klt key (keyAt rows ((i + 1) * mn)) ↔ idx rows mn key ≤ i := by
      rw [h2]
      unfold idx
      have e3 := Nat.div_lt_iff_lt_mul (x := upTo rows key - 1) (y := i + 1) (show 0 < mn by omega)
      generalize (upTo rows key - 1) / mn = v at *
      generalize (i + 1) * mn = u at *
      omega
    rw [decide_eq_false hs.1, Bool.false_or, ← decide_not, ← Bool.decide_and, decide_eq_decide, e1, e2]
    omega
theorem check_part {rows : List Rw} (h : Sorted rows) (ho : RowsOk rows) {mn : Nat} (hm : 1 ≤ mn) {i : Nat} (hi : i < (partsL rows mn).length) :
    (partsL rows mn)[i].from_.size ≤ 64 ∧ (partsL rows mn)[i].to_.size ≤ 64 ∧ ((partsL rows mn)[i].to_.size = 0 ∨ klt (partsL rows mn)[i].from_ (partsL rows mn)[i].to_) := by
  have hlen := partsL_len rows mn
  have hiJ : i ≤ partsN rows mn := by omega
  rw [partsL_get hi]
  simp only
  have hz : (⟨#[]⟩ : ByteArray).size = 0 := rfl
  have hf : (keyAt rows (i * mn)).size ≤ 64 := by
    rcases partsN_lt hm hiJ with h0 | h0
    · unfold keyAt; rw [if_pos h0]; omega
    · by_cases hn : i * mn = 0
      · unfold keyAt; rw [if_pos hn]; omega
      · exact (keyAt_size ho hn h0).2
  by_cases hJ : i = partsN rows mn
  · rw [if_pos hJ]
    exact ⟨hf, by omega, .inl hz⟩
  · rw [if_neg hJ]
    have hpos := Nat.le_mul_of_pos_left mn (show 0 < i + 1 by omega)
    have hlt : (i + 1) * mn < rows.length := by
      rcases partsN_lt hm (show i + 1 ≤ partsN rows mn by omega) with h0 | h0
      · omega
      · exact h0
    have hne : (i + 1) * mn ≠ 0 := by omega
    refine ⟨hf, (keyAt_size ho hne hlt).2, .inr ?_⟩
    by_cases h0 : i * mn = 0
    · have : keyAt rows (i * mn) = ⟨#[]⟩ := by unfold keyAt; rw [if_pos h0]
      rw [this]
      exact nil_lt (keyAt_size ho hne hlt).1
    · have hil : i * mn < rows.length := by rw [Nat.succ_mul] at hlt; omega
      unfold keyAt
      rw [if_neg h0, if_neg hne, List.getD_eq_getElem?_getD, List.getElem?_eq_getElem hil, List.getD_eq_getElem?_getD, List.getElem?_eq_getElem hlt, Option.getD_some, Option.getD_some]
      exact List.pairwise_iff_getElem.1 h _ _ hil hlt (by rw [Nat.succ_mul]; omega)
theorem upTo_self {rows : List Rw} (h : Sorted rows) {t : Nat} (ht : t < rows.length) : upTo rows rows[t].key = t + 1 := by
  have h3 := upTo_le rows rows[t].key
  have hn : ¬ upTo rows rows[t].key ≤ t := fun a => klt_irrefl _ ((upTo_spec h rows[t].key t ht).2 a)
  have h4 : t + 1 < rows.length → upTo rows rows[t].key ≤ t + 1 := fun hl => (upTo_spec h rows[t].key (t + 1) hl).1 (List.pairwise_iff_getElem.1 h t (t + 1) ht hl (by omega))
  generalize upTo rows rows[t].key = u at *
  by_cases hl : t + 1 < rows.length
  · have := h4 hl; omega
  · omega
theorem idx_self {rows : List Rw} (h : Sorted rows) {mn t : Nat} (ht : t < rows.length) : idx rows mn rows[t].key = t / mn := by
  unfold idx
  rw [upTo_self h ht]
  rfl
theorem wrongP_ok {l : List Rw} (h : wrongP l = 0) : RowsOk l := by
  unfold wrongP at h
  split at h
  · cases h
  · rename_i hn
    intro r hr
    cases ho : rowOk r with
    | true => rfl
    | false => exact absurd (List.any_eq_true.2 ⟨r, hr, by rw [ho]; rfl⟩) hn
end Go.Proofs.Ytgiajfgeplekbaa

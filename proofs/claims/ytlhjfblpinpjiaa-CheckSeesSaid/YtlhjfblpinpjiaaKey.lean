/- Keys: strings by their bytes, ordered as Go orders them. -/
import Derived.Lib.Bytealg
set_option linter.unusedVariables false
set_option linter.unusedSimpArgs false
namespace Go.Proofs.Ytlhjfblpinpjiaa

/-- A fact that the walk doesn't look into. -/
structure Asd (p : Prop) : Prop where mk :: (out : p)

theorem toList_eq (s : ByteArray) : s.toList = s.data.toList := ByteArray.toList_eq s

/-- a before b, as Go orders strings. -/
def klt (a b : ByteArray) : Prop := a.data.toList < b.data.toList
instance (a b : ByteArray) : Decidable (klt a b) := inferInstanceAs (Decidable (a.data.toList < b.data.toList))

theorem key_ext {a b : ByteArray} (h : a.data.toList = b.data.toList) : a = b := by
  cases a; cases b; simp_all [Array.toList_inj]
theorem klt_irrefl (a : ByteArray) : ¬ klt a a := List.lt_irrefl _
theorem klt_trans {a b c : ByteArray} (h : klt a b) (h' : klt b c) : klt a c := List.lt_trans h h'
theorem klt_asymm {a b : ByteArray} (h : klt a b) : ¬ klt b a := fun h' => klt_irrefl _ (klt_trans h h')
theorem klt_tri (a b : ByteArray) : klt a b ∨ a = b ∨ klt b a := by
  by_cases h1 : klt a b
  · exact .inl h1
  · by_cases h2 : klt b a
    · exact .inr (.inr h2)
    · refine .inr (.inl (key_ext ?_))
      exact List.le_antisymm (List.not_lt.1 h2) (List.not_lt.1 h1)
theorem klt_ne {a b : ByteArray} (h : klt a b) : a ≠ b := by rintro rfl; exact klt_irrefl _ h
theorem not_klt {a b : ByteArray} (h : ¬ klt a b) : a = b ∨ klt b a := (klt_tri a b).resolve_left h
theorem not_klt_trans {a b c : ByteArray} (h : ¬ klt b a) (h' : klt b c) : klt a c := by
  rcases not_klt h with rfl | h
  · exact h'
  · exact klt_trans h h'
theorem klt_not_trans {a b c : ByteArray} (h : klt a b) (h' : ¬ klt c b) : klt a c := by
  rcases not_klt h' with rfl | h'
  · exact h
  · exact klt_trans h h'

theorem compare_spec : ∀ (a b : List UInt8), Lib.compareBytes a b = if a < b then -1 else if b < a then 1 else 0
  | [], [] => by simp [Lib.compareBytes]
  | [], _ :: _ => by simp [Lib.compareBytes]
  | _ :: _, [] => by simp [Lib.compareBytes]
  | x :: a, y :: b => by
    have ih := compare_spec a b
    unfold Lib.compareBytes
    simp only [List.cons_lt_cons_iff]
    by_cases h1 : x < y
    · simp [h1]
    · by_cases h2 : y < x
      · have h3 : x ≠ y := by rintro rfl; exact h1 h2
        simp [h1, h2, h3]
      · have h3 : x = y := by
          have := UInt8.le_antisymm (UInt8.not_lt.1 h2) (UInt8.not_lt.1 h1)
          exact this
        subst h3
        simp [h1, ih]
theorem cmp_lt (a b : ByteArray) : Lib.compareBytes a.data.toList b.data.toList < 0 ↔ klt a b := by
  rw [compare_spec]
  by_cases h1 : a.data.toList < b.data.toList
  · simp [h1, klt]
  · by_cases h2 : b.data.toList < a.data.toList <;> simp [h1, h2, klt]
theorem cmp_gt (a b : ByteArray) : 0 < Lib.compareBytes a.data.toList b.data.toList ↔ klt b a := by
  rw [compare_spec]
  by_cases h1 : a.data.toList < b.data.toList
  · have := klt_asymm (a := a) (b := b) h1
    simp [h1, this]
  · by_cases h2 : b.data.toList < a.data.toList <;> simp [h1, h2, klt]
theorem cmp_zero (a b : ByteArray) : Lib.compareBytes a.data.toList b.data.toList = 0 ↔ a = b := by
  have h1 := cmp_lt a b
  have h2 := cmp_gt a b
  rcases klt_tri a b with h | h | h
  · have := klt_ne h
    simp only [h, iff_true] at h1
    constructor
    · intro e; omega
    · intro e; exact absurd e this
  · subst h
    have := klt_irrefl a
    simp only [this, iff_false] at h1 h2
    constructor
    · intro; rfl
    · intro; omega
  · have := klt_ne h
    simp only [h, iff_true] at h2
    constructor
    · intro e; omega
    · intro e; exact absurd e.symm this

theorem bytesLess_lt : ∀ (a b : List UInt8), Op.bytesLess a b = decide (a < b)
  | [], [] => by simp [Op.bytesLess]
  | [], _ :: _ => by simp [Op.bytesLess]
  | _ :: _, [] => by simp [Op.bytesLess]
  | x :: a, y :: b => by
    unfold Op.bytesLess
    rw [bytesLess_lt a b]
    simp only [List.cons_lt_cons_iff, Bool.decide_or, Bool.decide_and]
    congr 2
theorem less_eq (a b : ByteArray) : Op.bytesLess a.toList b.toList = decide (klt a b) := by
  rw [toList_eq, toList_eq, bytesLess_lt]
  rfl
theorem same_eq (a b : ByteArray) : (a.toList == b.toList) = decide (a = b) := by
  rw [toList_eq, toList_eq]
  by_cases h : a = b
  · subst h; simp
  · have : a.data.toList ≠ b.data.toList := fun e => h (key_ext e)
    rw [decide_eq_false h]
    exact beq_eq_false_iff_ne.2 this
theorem empty_eq (a : ByteArray) : a.toList.isEmpty = decide (a.size = 0) := by
  rw [toList_eq]
  rw [Bool.eq_iff_iff]
  rw [List.isEmpty_iff_length_eq_zero]
  simp
theorem nil_lt {a : ByteArray} (h : a.size ≠ 0) : klt ⟨#[]⟩ a := by
  unfold klt
  have : a.data.toList ≠ [] := by
    intro e
    apply h
    have : a.data.toList.length = a.size := by simp
    rw [e] at this
    simpa using this.symm
  cases e : a.data.toList with
  | nil => exact absurd e this
  | cons x y => simp
theorem not_lt_nil (a : ByteArray) : ¬ klt a ⟨#[]⟩ := by simp [klt]
theorem size_zero {a : ByteArray} (h : a.size = 0) : a = ⟨#[]⟩ := by
  apply key_ext
  have : a.data.toList.length = a.size := by simp
  rw [h] at this
  exact List.eq_nil_of_length_eq_zero this

theorem emp_iff (a : ByteArray) : (a = ByteArray.empty) = (a.toList = []) := by
  rw [toList_eq]
  apply propext
  constructor
  · rintro rfl; rfl
  · intro h; exact key_ext (by rw [h]; rfl)

end Go.Proofs.Ytlhjfblpinpjiaa

/- Pages of a table, in plain Lean. -/
import Derived.Test.YtlhjfblpinpjiaaTb6
set_option linter.unusedVariables false
set_option linter.unusedSimpArgs false
namespace Go.Proofs.Ytlhjfblpinpjiaa

theorem klt_zero (a k : ByteArray) : klt a (k ++ ⟨#[0]⟩) ↔ ¬ klt k a := by
  unfold klt
  have h : (k ++ (⟨#[0]⟩ : ByteArray)).data.toList = k.data.toList ++ [0] := by simp
  rw [h]
  generalize a.data.toList = x
  generalize k.data.toList = y
  induction y generalizing x with
  | nil =>
    cases x with
    | nil => simp
    | cons u x => simp [List.cons_lt_cons_iff]
  | cons v y ih =>
    cases x with
    | nil => simp
    | cons u x =>
      have ih' : (x < y ++ [0]) = (¬ y < x) := propext (ih x)
      rw [List.cons_append, List.cons_lt_cons_iff, List.cons_lt_cons_iff, ih']
      by_cases h1 : u < v
      · have h2 : ¬ v < u := UInt8.not_lt.2 (UInt8.le_of_lt h1)
        have h3 : v ≠ u := by rintro rfl; exact h2 h1
        simp [h1, h2, h3]
      · by_cases h2 : v < u
        · have h3 : u ≠ v := by rintro rfl; exact h1 h2
          simp [h1, h2, h3]
        · have h3 : u = v := UInt8.le_antisymm (UInt8.not_lt.1 h2) (UInt8.not_lt.1 h1)
          subst h3
          simp

theorem pos_at {x : ByteArray} {l : List Rw} {m : Nat} (hm : m ≤ l.length) (h1 : ∀ r ∈ l.take m, klt r.key x) (h2 : ∀ r ∈ l.drop m, ¬ klt r.key x) : pos x l = m := by
  unfold pos
  rw [← List.take_append_drop m l, List.countP_append, List.countP_eq_length.2 (fun r hr => by simpa using h1 r hr), List.countP_eq_zero.2 (fun r hr => by simpa using h2 r hr), List.length_take]
  omega
theorem page_next {l : List Rw} (h : Sorted l) {c : Nat} (hc : c < l.length) : pos (l[c].key ++ ⟨#[0]⟩) l = c + 1 := by
  refine pos_at hc (fun r hr => (klt_zero _ _).2 ?_) (fun r hr => ?_)
  · rw [List.take_succ_eq_append_getElem hc, List.mem_append, List.mem_singleton] at hr
    rcases hr with hr | rfl
    · obtain ⟨i, hi, rfl⟩ := List.mem_take_iff_getElem.1 hr
      exact klt_asymm (List.pairwise_iff_getElem.1 h i c (by omega) hc (by omega))
    · exact klt_irrefl _
  · rw [klt_zero]
    intro k
    obtain ⟨i, hi, rfl⟩ := List.mem_drop_iff_getElem.1 hr
    exact k (List.pairwise_iff_getElem.1 h c (c + 1 + i) hc (by omega) (by omega))
theorem pos_nil (l : List Rw) : pos ⟨#[]⟩ l = 0 := pos_zero _ _ fun r _ => not_lt_nil _
theorem page_res {l : List Rw} {c m : Nat} {key val : ByteArray} {stamp test : Int} (hp : pos key l = c) (h1 : 1 ≤ m) (hc : c ≤ l.length) :
    oneP l ⟨6, key, val, stamp, test, (m : Int)⟩ = (l, ⟨0, 0, ⟨#[]⟩, (l.drop c).take (min m (l.length - c))⟩) := by
  subst hp
  have : (min (m : Int) ((l.length : Int) - (pos key l : Int))).toNat = min m (l.length - pos key l) := by omega
  simp [oneP, this]
theorem page_ok {key : ByteArray} {m : Nat} (h1 : 1 ≤ m) (h2 : m ≤ 100) (hk : key.size ≤ 64) : opOk ⟨6, key, ⟨#[]⟩, 0, 0, (m : Int)⟩ = true := by
  have h3 : (1 : Int) ≤ (m : Int) := by omega
  have h4 : (m : Int) ≤ 100 := by omega
  have h5 : (key.size : Int) ≤ 64 := by omega
  simp [opOk, h3, h4, h5]
  rfl
theorem page_app (l : List Rw) (c m : Nat) : l.take c ++ (l.drop c).take m = l.take (c + m) := by
  rw [List.take_add]
theorem rows_all (l : List Rw) : rowsP l ⟨⟨#[]⟩, ⟨#[]⟩⟩ = l := by
  have : (⟨#[]⟩ : ByteArray).size = 0 := rfl
  unfold rowsP endsP
  simp only [pos_nil]
  rw [if_pos this]
  simp
end Go.Proofs.Ytlhjfblpinpjiaa

/- A sorted row, as an own row. -/
import Derived.Test.YtkjopeiohjkhoaaSw1
import Derived.Shelf.SlSortCmp.InsertionK
set_option linter.unusedVariables false
set_option linter.unusedSimpArgs false
namespace Go.Proofs.Ytkjopeiohjkhoaa
open Go.RowKit Go.Sort

theorem flat_list {α : Type} [Inhabited α] (enc : α → List Value) (k : Nat) (hk : ∀ x, (enc x).length = k) (d : Array α) : (flatK enc k d).toList = d.toList.flatMap enc := by
  apply List.ext_getElem
  · rw [flat_len enc k hk]; simp
  · intro t h1 h2
    have ht : t < d.size * k := by simpa using h1
    have hk0 : 0 < k := by
      rcases Nat.eq_zero_or_pos k with h | h
      · subst h; simp at ht
      · exact h
    have hq : t / k < d.size := Nat.div_lt_of_lt_mul (by rwa [Nat.mul_comm])
    have hr := Nat.mod_lt t hk0
    have e := flat_get enc k hk d.toList (t / k) (t % k) (by simpa using hq) hr
    rw [Nat.div_add_mod' t k, List.getElem?_eq_getElem h2, List.getElem?_eq_getElem (by rw [hk]; exact hr)] at e
    injection e with e
    have g := get_flatK enc k d t ht
    rw [getElem!_pos _ t (by simpa using ht), getElem!_pos d (t / k) hq, getElem!_pos _ (t % k) (by rw [hk]; exact hr)] at g
    rw [e, Array.getElem_toList, g]
    rfl
theorem holds_of_own {α : Type} [Inhabited α] {enc : α → List Value} {k : Nat} (hk : ∀ x, (enc x).length = k) {w : World} {own T g n c : Nat} {L : List α} (h : w.ownsRow own T k (.slice (some ⟨g, 0, none⟩) n c) n (L.flatMap enc)) :
    HoldsK enc k w g 0 L.toArray := by
  rcases h.2 with ⟨h1, _⟩ | ⟨g', cap, cur, hv, hb, hh, h1, h2, h3, h4⟩
  · cases h1
  · injection hv with hv _ hcap
    injection hv with hv
    injection hv with hv _ _
    subst hv
    intro j hj
    have hl := flat_list enc k hk L.toArray
    rw [List.toList_toArray] at hl
    rw [← hl] at h4
    have hjl : j < (flatK enc k L.toArray).toList.length := by simpa using hj
    have e : (flatK enc k L.toArray).toList[j]? = cur.toList[j]? := by
      rw [← h4, List.getElem?_take, if_pos]
      rw [← h4] at hjl
      rw [List.length_take] at hjl
      omega
    rw [List.getElem?_eq_getElem hjl, Array.getElem?_toList, Array.getElem_toList] at e
    rw [Nat.zero_add]
    refine ⟨?_, ?_⟩
    · rw [cell_of_row w g j _ _ _ hh, ← e, getElem!_pos _ j hj]; rfl
    · unfold World.frozen?
      simp [hh]
theorem own_of_sort {α : Type} [Inhabited α] {enc : α → List Value} {k : Nat} (hk : ∀ x, (enc x).length = k) {w : World} {own T g n c : Nat} {L : List α} (h : w.ownsRow own T k (.slice (some ⟨g, 0, none⟩) n c) n (L.flatMap enc)) (hL : L.length = n) (d : Array α) (hd : d.size = n) (m : Nat) (os : Array Obj) :
    (sortWorldK enc k w g 0 m d os).ownsRow own T k (.slice (some ⟨g, 0, none⟩) n c) n (d.toList.flatMap enc) ∧ w.grownBy (sortWorldK enc k w g 0 m d os) (some g) := by
  rcases h.2 with ⟨h1, _⟩ | ⟨g', cap, cur, hv, hb, hh, h1, h2, h3, h4⟩
  · cases h1
  · injection hv with hv _ hcap
    injection hv with hv
    injection hv with hv _ _
    subst hv hcap
    have hg : g < w.heap.size := (Array.getElem?_eq_some_iff.1 hh).1
    have hF : (flatK enc k d).size = n * k := by rw [size_flatK, hd]
    have hheap : (sortWorldK enc k w g 0 m d os).heap[g]? = some (.cells (putCells id 0 (flatK enc k d) cur) T (0, 0)) := by
      unfold sortWorldK putRowK putRow mapBlock grow Sort.ahead
      simp only [Array.getElem?_append, Array.size_modify, if_pos hg, Array.getElem?_modify, hh]
      rfl
    refine ⟨⟨by rw [flat_len enc k hk, Array.length_toList, hd], .inr ⟨g, c, _, rfl, hb, hheap, h1, h2, by simp [putCells, h3], ?_⟩⟩, ?_⟩
    · rw [← flat_list enc k hk d]
      apply List.ext_getElem
      · simp [putCells, h3, hd]
        rw [Nat.min_eq_left h1]
      · intro j hj1 hj2
        have hj : j < n * k := by rw [Array.length_toList, hF] at hj2; exact hj2
        rw [List.getElem_take, Array.getElem_toList, Array.getElem_toList]
        simp only [putCells, Array.getElem_mapIdx]
        rw [if_pos ⟨Nat.zero_le _, by rw [hF]; omega⟩, Nat.sub_zero, getElem!_pos _ j (by rw [hF]; exact hj)]
        rfl
    · refine ⟨rfl, rfl, rfl, ?_, fun i hi hne => ?_⟩
      · unfold sortWorldK putRowK putRow mapBlock grow Sort.ahead
        simp
      · have : g ≠ i := fun e => hne (by rw [e])
        unfold sortWorldK putRowK putRow mapBlock grow Sort.ahead
        simp only [Array.getElem?_append, Array.size_modify, if_pos hi, Array.getElem?_modify, if_neg this]
end Go.Proofs.Ytkjopeiohjkhoaa

/- DiffRepairs, plain: rows that are repaired part by part. -/
import Derived.Test.YtgiajfgeplekbaaP5
import Derived.Test.YtgiajfgeplekbaaDc
import Derived.Test.YtgiajfgeplekbaaH10
set_option linter.unusedVariables false
set_option linter.unusedSimpArgs false
namespace Go.Proofs.Ytgiajfgeplekbaa

/-- The rows of part i. -/
def partOf (f : ByteArray → Nat) (l : List Rw) (i : Nat) : List Rw := l.filter fun r => decide (i = f r.key)
theorem mem_partOf {f : ByteArray → Nat} {l : List Rw} {i : Nat} {r : Rw} : r ∈ partOf f l i ↔ r ∈ l ∧ i = f r.key := by
  unfold partOf
  rw [List.mem_filter, decide_eq_true_iff]
theorem partOf_sorted {f : ByteArray → Nat} {l : List Rw} {i : Nat} (h : Sorted l) : Sorted (partOf f l i) := List.Pairwise.sublist List.filter_sublist h
theorem partOf_len (f : ByteArray → Nat) (l : List Rw) (i : Nat) : (partOf f l i).length ≤ l.length := List.length_filter_le _ _
/-- Of the parts ahead of k the rows are b's, of the others a's. -/
structure Mix (f : ByteArray → Nat) (a b l : List Rw) (k : Nat) : Prop where
  srt : Sorted l
  mem : ∀ r, r ∈ l ↔ if f r.key < k then r ∈ b else r ∈ a
theorem Mix.start {f : ByteArray → Nat} {a b : List Rw} (h : Sorted a) : Mix f a b a 0 := ⟨h, fun r => by rw [if_neg (by omega)]⟩
theorem Mix.part {f : ByteArray → Nat} {a b l : List Rw} {k : Nat} (h : Mix f a b l k) (ha : Sorted a) : partOf f l k = partOf f a k := by
  refine sorted_ext (partOf_sorted h.srt) (partOf_sorted ha) fun r => ?_
  rw [mem_partOf, mem_partOf, h.mem]
  constructor
  · rintro ⟨h1, h2⟩
    rw [if_neg (by omega)] at h1
    exact ⟨h1, h2⟩
  · rintro ⟨h1, h2⟩
    rw [if_neg (by omega)]
    exact ⟨h1, h2⟩
theorem Mix.skip {f : ByteArray → Nat} {a b l : List Rw} {k : Nat} (h : Mix f a b l k) (he : partOf f a k = partOf f b k) : Mix f a b l (k + 1) := by
  refine ⟨h.srt, fun r => ?_⟩
  rw [h.mem]
  by_cases h1 : f r.key = k
  · rw [if_neg (by omega), if_pos (by omega)]
    have h2 : r ∈ partOf f a k ↔ r ∈ partOf f b k := by rw [he]
    rw [mem_partOf, mem_partOf] at h2
    simpa [h1] using h2
  · by_cases h2 : f r.key < k
    · rw [if_pos h2, if_pos (by omega)]
    · rw [if_neg h2, if_neg (by omega)]
theorem patch_mem {a b : List Rw} (ha : Sorted a) (hb : Sorted b) (r : Rw) : (r ∈ putP a b ∨ (r ∈ a ∧ there r.key (putP a b) = false ∧ r.key ∉ goneP a b)) ↔ r ∈ b := by
  constructor
  · rintro (h1 | ⟨h1, h2, h3⟩)
    · exact (mem_putP.1 h1).1
    · have ht : there r.key a = true := (there_iff _ _).2 ⟨r, h1, rfl⟩
      have hb1 : there r.key b = true := by
        cases hq : there r.key b with
        | true => rfl
        | false => exact absurd (mem_goneP.2 ⟨ht, hq⟩) h3
      obtain ⟨q, hq, hk⟩ := (there_iff _ _).1 hb1
      by_cases hg : get a q.key = some q
      · have := key_inj ha (get_some ha |>.1 hg).1 h1 hk
        rw [← this]; exact hq
      · have : there r.key (putP a b) = true := (there_iff _ _).2 ⟨q, mem_putP.2 ⟨hq, hg⟩, hk⟩
        rw [h2] at this
        cases this
  · intro h1
    by_cases hg : get a r.key = some r
    · have hr := (get_some ha |>.1 hg).1
      by_cases hp : there r.key (putP a b) = false
      · refine .inr ⟨hr, hp, fun hd => ?_⟩
        have h2 := (mem_goneP.1 hd).2
        have h3 : there r.key b = true := (there_iff _ _).2 ⟨r, h1, rfl⟩
        rw [h2] at h3
        cases h3
      · obtain ⟨q, hq, hk⟩ := (there_iff _ _).1 (by simpa using hp)
        have := key_inj hb (mem_putP.1 hq).1 h1 hk
        rw [this] at hq
        exact .inl hq
    · exact .inl (mem_putP.2 ⟨h1, hg⟩)
theorem Mix.patch {f : ByteArray → Nat} {a b l out : List Rw} {k : Nat} (h : Mix f a b l k) (ha : Sorted a) (hb : Sorted b) (hp : Patched l (putP (partOf f a k) (partOf f b k)) (goneP (partOf f a k) (partOf f b k)) out) : Mix f a b out (k + 1) := by
  have hpa := partOf_sorted (f := f) (i := k) ha
  have hpb := partOf_sorted (f := f) (i := k) hb
  refine ⟨hp.sorted h.srt (putP_sorted hpb), fun r => ?_⟩
  rw [hp.mem, h.mem]
  by_cases h1 : f r.key = k
  · rw [if_neg (by omega), if_pos (by omega)]
    have h2 := patch_mem hpa hpb r
    rw [mem_partOf, mem_partOf] at h2
    simpa [h1] using h2
  · have hput : r ∉ putP (partOf f a k) (partOf f b k) := fun hh => h1 (mem_partOf.1 (mem_putP.1 hh).1).2.symm
    have hth : there r.key (putP (partOf f a k) (partOf f b k)) = false := by
      rw [Bool.eq_false_iff]
      intro hh
      obtain ⟨q, hq, hk⟩ := (there_iff _ _).1 hh
      have := (mem_partOf.1 (mem_putP.1 hq).1).2
      rw [hk] at this
      exact h1 this.symm
    have hgo : r.key ∉ goneP (partOf f a k) (partOf f b k) := fun hh => by
      obtain ⟨q, hq, hk⟩ := (there_iff _ _).1 (mem_goneP.1 hh).1
      have := (mem_partOf.1 hq).2
      rw [hk] at this
      exact h1 this.symm
    by_cases h2 : f r.key < k
    · rw [if_pos h2, if_pos (by omega)]
      simp [hput, hth, hgo]
    · rw [if_neg h2, if_neg (by omega)]
      simp [hput, hth, hgo]
theorem Mix.all {f : ByteArray → Nat} {a b l : List Rw} {m : Nat} (h : Mix f a b l m) (hb : Sorted b) (hf : ∀ k, f k < m) : l = b :=
  sorted_ext h.srt hb fun r => by rw [h.mem, if_pos (hf _)]
theorem filter_parts (p : Rw → Bool) (l : List Rw) : l.length = (l.filter p).length + (l.filter fun r => !p r).length := by
  induction l with
  | nil => rfl
  | cons r l ih =>
    by_cases h : p r = true
    · simp [h, ih]; omega
    · simp [h, ih]; omega
theorem Mix.len {f : ByteArray → Nat} {a b l : List Rw} {k : Nat} (h : Mix f a b l k) (ha : Sorted a) (hb : Sorted b) : l.length ≤ a.length + b.length := by
  rw [filter_parts (fun r => decide (f r.key < k)) l]
  have h1 : l.filter (fun r => decide (f r.key < k)) = b.filter (fun r => decide (f r.key < k)) := by
    refine sorted_ext (List.Pairwise.sublist List.filter_sublist h.srt) (List.Pairwise.sublist List.filter_sublist hb) fun r => ?_
    rw [List.mem_filter, List.mem_filter, h.mem]
    by_cases hk : f r.key < k
    · simp [hk]
    · simp [hk]
  have h2 : l.filter (fun r => !decide (f r.key < k)) = a.filter (fun r => !decide (f r.key < k)) := by
    refine sorted_ext (List.Pairwise.sublist List.filter_sublist h.srt) (List.Pairwise.sublist List.filter_sublist ha) fun r => ?_
    rw [List.mem_filter, List.mem_filter, h.mem]
    by_cases hk : f r.key < k
    · simp [hk]
    · simp [hk]
  rw [h1, h2]
  have h3 := List.length_filter_le (fun r => decide (f r.key < k)) b
  have h4 := List.length_filter_le (fun r => !decide (f r.key < k)) a
  omega
theorem Mix.wrong {f : ByteArray → Nat} {a b l : List Rw} {k : Nat} (h : Mix f a b l k) (ha : wrongP a = 0) (hb : wrongP b = 0) : wrongP l = 0 := by
  refine wrongP_zero.2 ⟨fun r hr => ?_, h.srt⟩
  have h1 := (h.mem r).1 hr
  split at h1
  · exact (wrongP_zero.1 hb).1 r h1
  · exact (wrongP_zero.1 ha).1 r h1
theorem partOf_wrong {f : ByteArray → Nat} {l : List Rw} {k : Nat} (h : wrongP l = 0) : wrongP (partOf f l k) = 0 :=
  wrongP_zero.2 ⟨fun r hr => (wrongP_zero.1 h).1 r (mem_partOf.1 hr).1, partOf_sorted (wrongP_zero.1 h).2⟩
theorem diff_none {a b : List Rw} (ha : Sorted a) (hb : Sorted b) (h1 : putP a b = []) (h2 : goneP a b = []) : a = b :=
  sorted_ext ha hb fun r => by
    have h := patch_mem ha hb r
    rw [h1, h2] at h
    rw [← h]
    simp [there_iff]
    exact fun _ => rfl

theorem unl_snoc (a b : List Int) (k : Nat) : unlikeP a b (k + 1) = unlikeP a b k ++ (if a.getD k 0 = b.getD k 0 then [] else [(k : Int)]) := by
  unfold unlikeP
  rw [List.range_succ, List.filter_append, List.map_append]
  congr 1
  by_cases h : a.getD k 0 = b.getD k 0
  · rw [if_pos h]
    simp only [List.filter_cons, h, ne_eq, not_true_eq_false, decide_false]
    rfl
  · rw [if_neg h]
    simp only [List.filter_cons, h, ne_eq, not_false_eq_true, decide_true]
    rfl
theorem unl_rest (a b : List Int) (k : Nat) : ∀ d, ∃ t, unlikeP a b (k + d) = unlikeP a b k ++ t ∧ ∀ x ∈ t, (k : Int) ≤ x
  | 0 => ⟨[], by simp, by simp⟩
  | d + 1 => by
    obtain ⟨t, h1, h2⟩ := unl_rest a b k d
    refine ⟨t ++ (if a.getD (k + d) 0 = b.getD (k + d) 0 then [] else [((k + d : Nat) : Int)]), by rw [← Nat.add_assoc, unl_snoc, h1, List.append_assoc], ?_⟩
    intro x hx
    rcases List.mem_append.1 hx with h | h
    · exact h2 x h
    · split at h
      · cases h
      · rw [List.mem_singleton] at h
        omega
theorem unl_hit {a b : List Int} {k m : Nat} (hk : k < m) (h : a.getD k 0 ≠ b.getD k 0) : (unlikeP a b (k + 1)).length = (unlikeP a b k).length + 1 ∧ ∃ hl : (unlikeP a b k).length < (unlikeP a b m).length, (unlikeP a b m)[(unlikeP a b k).length] = (k : Int) := by
  obtain ⟨t, h1, _⟩ := unl_rest a b (k + 1) (m - (k + 1))
  rw [show k + 1 + (m - (k + 1)) = m by omega, unl_snoc, if_neg h, List.append_assoc] at h1
  refine ⟨by rw [unl_snoc, if_neg h]; simp, by rw [h1]; simp, ?_⟩
  simp only [h1]
  rw [List.getElem_append_right (Nat.le_refl _)]
  simp
theorem unl_miss {a b : List Int} {k m : Nat} (hk : k < m) (h : a.getD k 0 = b.getD k 0) : (unlikeP a b (k + 1)).length = (unlikeP a b k).length ∧ ∀ hl : (unlikeP a b k).length < (unlikeP a b m).length, (unlikeP a b m)[(unlikeP a b k).length] ≠ (k : Int) := by
  obtain ⟨t, h1, h2⟩ := unl_rest a b (k + 1) (m - (k + 1))
  rw [show k + 1 + (m - (k + 1)) = m by omega, unl_snoc, if_pos h, List.append_nil] at h1
  refine ⟨by rw [unl_snoc, if_pos h]; simp, fun hl => ?_⟩
  simp only [h1] at hl ⊢
  rw [List.length_append] at hl
  rw [List.getElem_append_right (Nat.le_refl _)]
  have := h2 _ (List.getElem_mem (l := t) (n := (unlikeP a b k).length - (unlikeP a b k).length) (by omega))
  omega
theorem digs_get (l : List Rw) (ps : List SpanR) {k : Nat} (hk : k < ps.length) : (digsP l ps).getD k 0 = digP (withinP l ps[k]) := by
  unfold digsP
  rw [List.getD_eq_getElem?_getD, List.getElem?_map, List.getElem?_eq_getElem hk]
  rfl
theorem within_part {rows : List Rw} (h : Sorted rows) (ho : RowsOk rows) {mn : Nat} (hm : 1 ≤ mn) (l : List Rw) {i : Nat} (hi : i < (partsL rows mn).length) : withinP l (partsL rows mn)[i] = partOf (idx rows mn) l i := by
  unfold withinP partOf
  congr 1
  funext r
  exact has_part h ho hm r.key hi
theorem idx_lt (rows : List Rw) (mn : Nat) (key : ByteArray) : idx rows mn key < (partsL rows mn).length := by
  rw [partsL_len]
  have := idx_le (rows := rows) (mn := mn) key
  omega
end Go.Proofs.Ytgiajfgeplekbaa

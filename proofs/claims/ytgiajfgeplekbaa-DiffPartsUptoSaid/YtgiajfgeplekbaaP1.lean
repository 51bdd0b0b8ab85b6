/- Patch, plain: what is put, and what is left of the rows, sorted; what is patched by its Diff is what was wanted. -/
import Derived.Test.YtgiajfgeplekbaaD12
set_option linter.unusedVariables false
set_option linter.unusedSimpArgs false
namespace Go.Proofs.Ytgiajfgeplekbaa
open Go.RowKit

/-- What is dropped rises, and nothing of it is put. -/
structure OkD (put : List Rw) (drop : List ByteArray) : Prop where
  up : drop.Pairwise klt
  no : ∀ k ∈ drop, there k put = false
def leftP (have_ put : List Rw) (drop : List ByteArray) : List Rw := have_.filter fun r => !there r.key put && !decide (r.key ∈ drop)
theorem leftP_snoc (a put : List Rw) (drop : List ByteArray) (r : Rw) : leftP (a ++ [r]) put drop = leftP a put drop ++ (if there r.key put = false ∧ r.key ∉ drop then [r] else []) := by
  unfold leftP
  rw [List.filter_append]
  congr 1
  by_cases h1 : there r.key put = false <;> by_cases h2 : r.key ∈ drop <;> simp_all
theorem leftP_len (a put : List Rw) (drop : List ByteArray) : (leftP a put drop).length ≤ a.length := List.length_filter_le _ _
/-- What Patch tells. -/
structure Patched (have_ put : List Rw) (drop : List ByteArray) (out : List Rw) : Prop where
  perm : out.Perm (put ++ leftP have_ put drop)
  srt : ∀ i j (hi : i < out.length) (hj : j < out.length), i < j → ¬ klt out[j].key out[i].key
theorem keys_apart {a put : List Rw} (ha : Sorted a) (hp : Sorted put) (drop : List ByteArray) : (put ++ leftP a put drop).Pairwise fun r q => r.key ≠ q.key := by
  refine List.pairwise_append.2 ⟨hp.imp fun h => klt_ne h, (List.Pairwise.sublist List.filter_sublist ha).imp fun h => klt_ne h, fun r hr q hq e => ?_⟩
  obtain ⟨_, h1⟩ := List.mem_filter.1 hq
  rw [Bool.and_eq_true] at h1
  have h2 : there q.key put = true := (there_iff _ _).2 ⟨r, hr, e⟩
  rw [h2] at h1
  exact absurd h1.1 (by decide)
theorem Patched.sorted {a put out : List Rw} {drop : List ByteArray} (h : Patched a put drop out) (ha : Sorted a) (hp : Sorted put) : Sorted out := by
  have h1 : out.Pairwise fun r q => r.key ≠ q.key := (h.perm.pairwise_iff (fun {x y} e => e.symm)).2 (keys_apart ha hp drop)
  refine List.pairwise_iff_getElem.2 fun i j hi hj hij => ?_
  have h2 := h.srt i j hi hj hij
  have h3 := List.pairwise_iff_getElem.1 h1 i j hi hj hij
  rcases klt_tri out[i].key out[j].key with h4 | h4 | h4
  · exact h4
  · exact absurd h4 h3
  · exact absurd h4 h2
theorem Patched.mem {a put out : List Rw} {drop : List ByteArray} (h : Patched a put drop out) (r : Rw) : r ∈ out ↔ r ∈ put ∨ (r ∈ a ∧ there r.key put = false ∧ r.key ∉ drop) := by
  rw [h.perm.mem_iff, List.mem_append]
  unfold leftP
  rw [List.mem_filter, Bool.and_eq_true]
  simp
theorem mem_putP {a b : List Rw} {r : Rw} : r ∈ putP a b ↔ r ∈ b ∧ get a r.key ≠ some r := by
  unfold putP
  rw [List.mem_filter, decide_eq_true_iff]
theorem putP_sorted {a b : List Rw} (hb : Sorted b) : Sorted (putP a b) := List.Pairwise.sublist List.filter_sublist hb
theorem mem_goneP {a b : List Rw} {k : ByteArray} : k ∈ goneP a b ↔ there k a = true ∧ there k b = false := mem_gone
theorem goneP_up {a b : List Rw} (ha : Sorted a) : (goneP a b).Pairwise klt := by
  unfold goneP
  exact List.pairwise_map.2 (List.Pairwise.sublist List.filter_sublist ha)
theorem diff_ok {a b : List Rw} (ha : Sorted a) : OkD (putP a b) (goneP a b) :=
  ⟨goneP_up ha, fun k hk => by
    rw [Bool.eq_false_iff]
    intro h
    obtain ⟨r, hr, rfl⟩ := (there_iff _ _).1 h
    have h1 := (mem_goneP.1 hk).2
    have h2 : there r.key b = true := (there_iff _ _).2 ⟨r, (mem_putP.1 hr).1, rfl⟩
    rw [h1] at h2
    cases h2⟩
/-- What is patched by its Diff is what was wanted. -/
theorem patch_back {a b out : List Rw} (ha : Sorted a) (hb : Sorted b) (h : Patched a (putP a b) (goneP a b) out) : out = b := by
  refine sorted_ext (h.sorted ha (putP_sorted hb)) hb fun r => ?_
  rw [h.mem]
  constructor
  · rintro (h1 | ⟨h1, h2, h3⟩)
    · exact (mem_putP.1 h1).1
    · have ht : there r.key a = true := (there_iff _ _).2 ⟨r, h1, rfl⟩
      have hb1 : there r.key b = true := by
        cases hq : there r.key b with
        | true => rfl
        | false => exact absurd (mem_goneP.2 ⟨ht, hq⟩) h3
      obtain ⟨q, hq, hk⟩ := (there_iff _ _).1 hb1
      by_cases hg : get a q.key = some q
      · have := key_inj ha (get_some ha |>.1 hg).1 h1 hk
        rw [← this]; exact hq
      · have : there r.key (putP a b) = true := (there_iff _ _).2 ⟨q, mem_putP.2 ⟨hq, hg⟩, hk⟩
        rw [h2] at this
        cases this
  · intro h1
    by_cases hg : get a r.key = some r
    · have hr := (get_some ha |>.1 hg).1
      by_cases hp : there r.key (putP a b) = false
      · refine .inr ⟨hr, hp, fun hd => ?_⟩
        have h2 := (mem_goneP.1 hd).2
        have h3 : there r.key b = true := (there_iff _ _).2 ⟨r, h1, rfl⟩
        rw [h2] at h3
        cases h3
      · obtain ⟨q, hq, hk⟩ := (there_iff _ _).1 (by simpa using hp)
        have := key_inj hb (mem_putP.1 hq).1 h1 hk
        rw [this] at hq
        exact .inl hq
    · exact .inl (mem_putP.2 ⟨h1, hg⟩)
theorem putP_self {a : List Rw} (ha : Sorted a) : putP a a = [] := by
  refine List.filter_eq_nil_iff.2 fun r hr => ?_
  rw [decide_eq_true_iff]
  exact fun h => h ((get_some ha).2 ⟨hr, rfl⟩)
theorem goneP_self (a : List Rw) : goneP a a = [] := by
  unfold goneP
  rw [List.map_eq_nil_iff]
  refine List.filter_eq_nil_iff.2 fun r hr => ?_
  rw [(there_iff _ _).2 ⟨r, hr, rfl⟩]
  decide
theorem putP_len (a b : List Rw) : (putP a b).length ≤ b.length := List.length_filter_le _ _
theorem goneP_len (a b : List Rw) : (goneP a b).length ≤ a.length := by
  unfold goneP
  rw [List.length_map]
  exact List.length_filter_le _ _
theorem wrongP_zero {l : List Rw} : wrongP l = 0 ↔ (∀ r ∈ l, rowOk r = true) ∧ Sorted l := by
  unfold wrongP
  by_cases h1 : (l.any fun r => !rowOk r) = true
  · rw [if_pos h1]
    obtain ⟨r, hr, h2⟩ := List.any_eq_true.1 h1
    constructor
    · intro h; omega
    · rintro ⟨h3, _⟩
      rw [h3 r hr] at h2
      cases h2
  · rw [if_neg h1]
    have h3 : ∀ r ∈ l, rowOk r = true := fun r hr => by
      cases hq : rowOk r with
      | true => rfl
      | false => exact absurd (List.any_eq_true.2 ⟨r, hr, by rw [hq]; rfl⟩) h1
    by_cases h2 : Sorted l
    · rw [if_pos h2]; exact ⟨fun _ => ⟨h3, h2⟩, fun _ => rfl⟩
    · rw [if_neg h2]; exact ⟨fun h => by omega, fun h => absurd h.2 h2⟩
theorem putP_wrong {a b : List Rw} (hb : wrongP b = 0) : wrongP (putP a b) = 0 := by
  obtain ⟨h1, h2⟩ := wrongP_zero.1 hb
  exact wrongP_zero.2 ⟨fun r hr => h1 r (mem_putP.1 hr).1, putP_sorted h2⟩
end Go.Proofs.Ytgiajfgeplekbaa

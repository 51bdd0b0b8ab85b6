/- DiffTurns, in plain Lean; named. -/
import Derived.Test.YtgiajfgeplekbaaD11
set_option linter.unusedVariables false
set_option linter.unusedSimpArgs false
namespace Go.Proofs.Ytgiajfgeplekbaa
open Go.RowKit

instance (x : ByteArray) (l : List ByteArray) : Decidable (x ∈ l) := decidable_of_iff (l.any (fun y => decide (y = x)) = true) (by
  rw [List.any_eq_true]
  constructor
  · rintro ⟨y, hy, e⟩
    rw [decide_eq_true_eq] at e
    exact e ▸ hy
  · intro h
    exact ⟨x, h, by rw [decide_eq_true_eq]⟩)
theorem named_calls {base : Nat} {w : World} {A : Option Addr} {n c : Nat} {l : List ByteArray} (ha : Rd base 9 w 1 A n c (tCells l)) (hn : n ≤ 1000000) (x : ByteArray) :
    Calls Try.prog 12 #[.slice A n c, .string x] w fun e w' => e = .returned (.bool (decide (x ∈ l))) ∧ w' = w := by
  have hl := ha.count (enc := tEnc) (fun _ => rfl) (by omega)
  have RA := Asd.mk ha
  have N := Asd.mk hl
  clear ha hl
  go_enter Try.func12, Try.ntmps12
  go_wp2
  go_loopw [9] (fun s9 wr => ∃ k : Nat, s9 = .int .i64 k ∧ k ≤ n ∧ Asd (wr = w) ∧ Asd (x ∉ l.take k)) (fun s9 _ => n - (intOf s9).toNat)
  case atStart => exact ⟨0, rfl, by omega, ⟨by simp⟩, ⟨by simp⟩⟩
  case round =>
    obtain ⟨k, rfl, hkn, hwr, I⟩ := hrel
    obtain rfl := hwr.out
    by_cases hlt : k < n
    · obtain ⟨b, off, rfl, hb, hil, hcs⟩ := RA.out.at_enc (enc := tEnc) (fun _ => rfl) (by omega) hlt
      have c0 : wr.cell? ⟨b, off + k, none⟩ = some (.string l[k]) := by simpa using hcs 0 _ rfl
      have hmem : l[k] ∈ l := List.getElem_mem hil
      have hsn : l.take (k + 1) = l.take k ++ [l[k]] := List.take_succ_eq_append_getElem hil
      generalize l[k] = y at c0 hmem hsn
      have SN := Asd.mk hsn
      have M := Asd.mk hmem
      clear hcs hsn hmem
      by_cases hxy : y = x
      · subst hxy
        go_wp2_with fail
        go_ret
        exact ⟨by rw [decide_eq_true M.out]; rfl, rfl⟩
      · have q1 : (y.toList == x.toList) = false := by rw [same_eq]; exact decide_eq_false hxy
        have q2 : ¬ y.toList = x.toList := fun e => hxy (by rw [toList_eq, toList_eq] at e; exact key_ext e)
        have NE := Asd.mk hxy
        clear hxy
        go_wp2_with fail
        go_roundw
        case measure => simp [intOf]; omega
        case rel =>
          refine ⟨k + 1, by go_num, by omega, ⟨by simp⟩, ⟨?_⟩⟩
          rw [SN.out, List.mem_append, List.mem_singleton]
          rintro (h | h)
          · exact I.out h
          · exact NE.out h.symm
    · have hle : l.take k = l := List.take_of_length_le (by have := N.out; omega)
      have I2 := I.out
      rw [hle] at I2
      have I3 := Asd.mk I2
      clear I2 hle
      go_wp2_with fail
      go_ret
      exact ⟨by rw [decide_eq_false I3.out]; rfl, rfl⟩

def mineP (put : List Rw) (gone : List ByteArray) : List ByteArray := (put.filter fun r => !decide (r.key ∈ gone)).map Rw.key
theorem mineP_snoc (put : List Rw) (gone : List ByteArray) (r : Rw) : mineP (put ++ [r]) gone = mineP put gone ++ (if r.key ∈ gone then [] else [r.key]) := by
  unfold mineP
  rw [List.filter_append]
  by_cases h : r.key ∈ gone <;> simp [h]
theorem mem_gone {a b : List Rw} {k : ByteArray} : k ∈ goneP b a ↔ there k b = true ∧ there k a = false := by
  unfold goneP
  rw [List.mem_map]
  constructor
  · rintro ⟨r, hr, rfl⟩
    obtain ⟨h1, h2⟩ := List.mem_filter.1 hr
    exact ⟨(there_iff _ _).2 ⟨r, h1, rfl⟩, by simpa using h2⟩
  · rintro ⟨h1, h2⟩
    obtain ⟨r, hr, rfl⟩ := (there_iff _ _).1 h1
    exact ⟨r, List.mem_filter.2 ⟨hr, by simpa using h2⟩, rfl⟩
theorem get_there {l : List Rw} {k : ByteArray} (h : there k l = false) : get l k = none := by
  rw [there_get] at h
  cases hg : get l k with
  | none => rfl
  | some z => rw [hg] at h; cases h
theorem turns_len {a b : List Rw} (ha : Sorted a) (hb : Sorted b) : (putP a b).length = (mineP (putP a b) (goneP b a)).length + (goneP b a).length := by
  have h1 : (goneP b a).length = ((putP a b).filter fun r => decide (r.key ∈ goneP b a)).length := by
    have : ((putP a b).filter fun r => decide (r.key ∈ goneP b a)) = b.filter fun r => !there r.key a := by
      unfold putP
      rw [List.filter_filter]
      refine List.filter_congr fun r hr => ?_
      have ht : there r.key b = true := (there_iff _ _).2 ⟨r, hr, rfl⟩
      cases h : there r.key a with
      | true => simp [mem_gone, ht, h]
      | false => simp [mem_gone, ht, h, get_there h]
    rw [this]
    simp [goneP]
  unfold mineP
  rw [List.length_map, h1]
  have split_ : ∀ (p : Rw → Bool) (l : List Rw), l.length = (l.filter fun r => !p r).length + (l.filter p).length := by
    intro p l
    induction l with
    | nil => rfl
    | cons x l ih =>
      cases h : p x <;> simp [h] <;> omega
  exact split_ _ _
def strip (r : Rw) : Rw := ⟨r.key, 0, ⟨#[]⟩⟩
theorem strip_sorted {l : List Rw} (h : Sorted l) : Sorted (l.map strip) := by
  unfold Sorted at *
  rw [List.pairwise_map]
  exact h
theorem mem_mine {a b : List Rw} (ha : Sorted a) (hb : Sorted b) {q : Rw} : q ∈ ((putP a b).filter fun r => !decide (r.key ∈ goneP b a)).map strip ↔ ∃ r s, get b q.key = some r ∧ get a q.key = some s ∧ r ≠ s ∧ q = ⟨q.key, 0, ⟨#[]⟩⟩ := by
  rw [List.mem_map]
  constructor
  · rintro ⟨r, hr, rfl⟩
    obtain ⟨h1, h2⟩ := List.mem_filter.1 hr
    obtain ⟨h3, h4⟩ := List.mem_filter.1 h1
    have ht : there r.key b = true := (there_iff _ _).2 ⟨r, h3, rfl⟩
    have h5 : there r.key a = true := by
      cases h : there r.key a with
      | true => rfl
      | false => simp [mem_gone, ht, h] at h2
    rw [there_get] at h5
    cases hg : get a r.key with
    | none => rw [hg] at h5; cases h5
    | some s =>
      refine ⟨r, s, (get_some hb).2 ⟨h3, rfl⟩, hg, ?_, rfl⟩
      rintro rfl
      simp [hg] at h4
  · rintro ⟨r, s, h1, h2, h3, h4⟩
    obtain ⟨h5, h6⟩ := (get_some hb).1 h1
    refine ⟨r, List.mem_filter.2 ⟨List.mem_filter.2 ⟨h5, ?_⟩, ?_⟩, ?_⟩
    · rw [h6, h2]
      simpa using fun e => h3 e.symm
    · have : there r.key a = true := by rw [there_get, h6, h2]; rfl
      simp [mem_gone, this]
    · rw [h4]
      unfold strip
      rw [h6]
theorem turns_same {a b : List Rw} (ha : Sorted a) (hb : Sorted b) : mineP (putP a b) (goneP b a) = mineP (putP b a) (goneP a b) := by
  have hs : ∀ {x y : List Rw}, Sorted y → Sorted (((putP x y).filter fun r => !decide (r.key ∈ goneP y x)).map strip) := fun {x y} h => strip_sorted ((h.filter _).filter _)
  have h := sorted_ext (hs (x := a) hb) (hs (x := b) ha) fun q => by
    rw [mem_mine ha hb, mem_mine hb ha]
    constructor
    · rintro ⟨r, s, h1, h2, h3, h4⟩
      exact ⟨s, r, h2, h1, h3.symm, h4⟩
    · rintro ⟨r, s, h1, h2, h3, h4⟩
      exact ⟨s, r, h2, h1, h3.symm, h4⟩
  have h2 := congrArg (List.map Rw.key) h
  unfold mineP
  rw [List.map_map, List.map_map] at h2
  exact h2
end Go.Proofs.Ytgiajfgeplekbaa

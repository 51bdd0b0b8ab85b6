/- SpanOne, the walk. -/
import Derived.Test.YtkjopeiohjkhoaaSv
import Derived.Test.YtkjopeiohjkhoaaSh
set_option linter.unusedVariables false
set_option linter.unusedSimpArgs false
namespace Go.Proofs.Ytkjopeiohjkhoaa
open Go.RowKit

theorem klt_zero (a k : ByteArray) : klt a (k ++ ⟨#[0]⟩) ↔ ¬ klt k a := by
  unfold klt
  have h : (k ++ (⟨#[0]⟩ : ByteArray)).data.toList = k.data.toList ++ [0] := by simp
  rw [h]
  generalize a.data.toList = x
  generalize k.data.toList = y
  induction y generalizing x with
  | nil =>
    cases x with
    | nil => simp
    | cons u x => simp [List.cons_lt_cons_iff]
  | cons v y ih =>
    cases x with
    | nil => simp
    | cons u x =>
      have ih' : (x < y ++ [0]) = (¬ y < x) := propext (ih x)
      rw [List.cons_append, List.cons_lt_cons_iff, List.cons_lt_cons_iff, ih']
      by_cases h1 : u < v
      · have h2 : ¬ v < u := UInt8.not_lt.2 (UInt8.le_of_lt h1)
        have h3 : v ≠ u := by rintro rfl; exact h2 h1
        simp [h1, h2, h3]
      · by_cases h2 : v < u
        · have h3 : u ≠ v := by rintro rfl; exact h1 h2
          simp [h1, h2, h3]
        · have h3 : u = v := UInt8.le_antisymm (UInt8.not_lt.1 h2) (UInt8.not_lt.1 h1)
          subst h3
          simp
theorem one_has (key other : ByteArray) : hasP other ⟨key, key ++ ⟨#[0]⟩⟩ = decide (other = key) := by
  unfold hasP
  simp only
  have hz : (key ++ (⟨#[0]⟩ : ByteArray)).size ≠ 0 := by rw [ByteArray.size_append]; show _ + 1 ≠ 0; omega
  rw [decide_eq_false hz, Bool.false_or]
  by_cases h : other = key
  · subst h
    rw [decide_eq_true rfl, decide_eq_false (klt_irrefl _), decide_eq_true ((klt_zero _ _).2 (klt_irrefl _))]; rfl
  · rw [decide_eq_false h]
    rcases klt_tri other key with h1 | h1 | h1
    · rw [decide_eq_true h1]; rfl
    · exact absurd h1 h
    · rw [decide_eq_false (fun e => (klt_zero _ _).1 e h1), Bool.and_false]
theorem one_chk (key : ByteArray) : chkP ⟨key, key ++ ⟨#[0]⟩⟩ = if key.size < 64 then 0 else 50 := by
  have hs : (key ++ (⟨#[0]⟩ : ByteArray)).size = key.size + 1 := by rw [ByteArray.size_append]; rfl
  unfold chkP
  by_cases h : key.size < 64
  · rw [if_pos h, if_pos ((spOk_iff _).2 ⟨by simp only; omega, by simp only; rw [hs]; omega, .inr ((klt_zero _ _).2 (klt_irrefl _))⟩)]
  · rw [if_neg h, if_neg]
    intro e
    have := ((spOk_iff _).1 e).2.1
    simp only at this
    rw [hs] at this
    omega

set_option maxHeartbeats 8000000 in
set_option maxRecDepth 100000 in
theorem SpanOne_walk {w : World} (key : ByteArray) (hkey : key.size ≤ 9223372036854775806) (other : ByteArray) :
    Calls Try.prog 8 #[.string key, .string other] w fun e w' => e = .returned (.bool true) ∧ Below w.heap.size w w' := by
  have hall : ∀ k, [(⟨key, key ++ ⟨#[0]⟩⟩ : SpanR)].any (hasP k) = decide (k = key) := fun k => by rw [List.any_cons, List.any_nil, Bool.or_false, one_has]
  have HA := Asd.mk hall
  have hck := fun W => SpanCheck_calls ⟨key, key ++ ⟨#[0]⟩⟩ W
  simp only [one_chk] at hck
  unfold SpanR.enc at hck
  have CK := Asd.mk hck
  clear hall hck
  go_enter Try.func8, Try.ntmps8
  go_wp2_with fail
  refine (works_calls _).mono ?_
  rintro e w1 ⟨rfl, hb1⟩
  have B1 := Asd.mk hb1
  clear hb1
  go_wp2_with fail
  have hb2 : Below w1.heap.size w1 (w1.alloc (.cells #[.string key, .string (key ++ ⟨#[0]⟩)] 35)) := (Below.refl _ _).alloc (Nat.le_refl _) _
  have B2 := Asd.mk (B1.out.trans (hb2.mono B1.out.size))
  have XL : Asd (Rd w.heap.size 35 (w1.alloc (.cells #[.string key, .string (key ++ ⟨#[0]⟩)] 35)) 2 (some ⟨w1.heap.size, 0, none⟩) 1 1 (sCells [⟨key, key ++ ⟨#[0]⟩⟩])) := ⟨Rd.new_ rfl rfl⟩
  clear hb2 B1
  generalize w1.heap.size = xb at XL ⊢
  generalize (w1.alloc (.cells #[.string key, .string (key ++ ⟨#[0]⟩)] 35)) = w2 at B2 XL ⊢
  refine (Has_calls (base := w.heap.size) (l := [⟨key, key ++ ⟨#[0]⟩⟩]) XL.out (by omega) key).mono ?_
  rw [HA.out, decide_eq_true rfl]
  rintro e w3 ⟨rfl, hb3⟩
  have B3 := Asd.mk (B2.out.trans (hb3.mono B2.out.size))
  replace XL := Asd.mk (Rd.below XL.out hb3)
  clear hb3 B2
  go_wp2_with fail
  refine (Has_calls (base := w.heap.size) (l := [⟨key, key ++ ⟨#[0]⟩⟩]) XL.out (by omega) other).mono ?_
  rw [HA.out]
  rintro e w4 ⟨rfl, hb4⟩
  have B4 := Asd.mk (B3.out.trans (hb4.mono B3.out.size))
  replace XL := Asd.mk (Rd.below XL.out hb4)
  clear hb4 B3 HA
  obtain ⟨b', o', hA, _, _, hcs⟩ := XL.out.at_enc (enc := SpanR.enc) (fun _ => rfl) (by omega) (show 0 < 1 by omega)
  cases hA
  have c0 : w4.cell? ⟨xb, 0, none⟩ = some (.string key) := hcs 0 _ rfl
  have c1 : w4.cell? ⟨xb, 1, none⟩ = some (.string (key ++ ⟨#[0]⟩)) := hcs 1 _ rfl
  clear hcs
  have hq : (other.toList == key.toList) = decide (other = key) := same_eq _ _
  by_cases hok : other = key
  case pos =>
    rw [decide_eq_true hok] at hq ⊢
    have ht : other.toList = key.toList := by rw [hok]
    clear hok
    have C := Asd.mk (CK.out w4)
    clear CK
    by_cases hk : key.size < 64
    case pos =>
      rw [if_pos hk] at C
      have hk1 : (key.size : Int) < 64 := by omega
      clear hk
      go_wp2_with fail
      refine C.out.mono ?_
      rintro e w5 ⟨rfl, hb5⟩
      have B5 := Asd.mk (B4.out.trans (hb5.mono B4.out.size))
      clear hb5
      go_wp2_with fail
      go_ret
      exact ⟨rfl, B5.out⟩
    case neg =>
      rw [if_neg hk] at C
      have hk1 : ¬ (key.size : Int) < 64 := by omega
      clear hk
      go_wp2_with fail
      refine C.out.mono ?_
      rintro e w5 ⟨rfl, hb5⟩
      have B5 := Asd.mk (B4.out.trans (hb5.mono B4.out.size))
      clear hb5
      go_wp2_with fail
      go_ret
      exact ⟨by rw [show decide ((key.size : Int) < 64) = false from decide_eq_false (by omega)]; rfl, B5.out⟩
  case neg =>
    rw [decide_eq_false hok] at hq ⊢
    have ht : ¬ other.toList = key.toList := fun e => by rw [toList_eq, toList_eq] at e; exact hok (key_ext e)
    have C := Asd.mk (CK.out w4)
    clear CK
    by_cases hk : key.size < 64
    case pos =>
      rw [if_pos hk] at C
      have hk1 : (key.size : Int) < 64 := by omega
      clear hk
      go_wp2_with fail
      refine C.out.mono ?_
      rintro e w5 ⟨rfl, hb5⟩
      have B5 := Asd.mk (B4.out.trans (hb5.mono B4.out.size))
      clear hb5
      go_wp2_with fail
      go_ret
      exact ⟨rfl, B5.out⟩
    case neg =>
      rw [if_neg hk] at C
      have hk1 : ¬ (key.size : Int) < 64 := by omega
      clear hk
      go_wp2_with fail
      refine C.out.mono ?_
      rintro e w5 ⟨rfl, hb5⟩
      have B5 := Asd.mk (B4.out.trans (hb5.mono B4.out.size))
      clear hb5
      go_wp2_with fail
      go_ret
      exact ⟨by rw [show decide ((key.size : Int) < 64) = false from decide_eq_false (by omega)]; rfl, B5.out⟩
end Go.Proofs.Ytkjopeiohjkhoaa

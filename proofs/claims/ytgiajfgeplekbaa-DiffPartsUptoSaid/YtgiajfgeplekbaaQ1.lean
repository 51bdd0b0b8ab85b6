/- The document's words on rows: may a row be, what is wrong, find. -/
import Derived.Test.YtgiajfgeplekbaaP5
set_option linter.unusedVariables false
set_option linter.unusedSimpArgs false
namespace Go.Proofs.Ytgiajfgeplekbaa
open Go.RowKit

theorem refKey_calls (k : ByteArray) (w : World) :
    Calls Try.prog 70 #[.string k] w fun e w' => e = .returned (.bool (decide (k.size ≠ 0) && decide ((k.size : Int) ≤ 64))) ∧ w' = w := by
  by_cases hz : k.size = 0
  · have htl : k.toList = [] := by rw [tl_nil]; exact hz
    rw [decide_eq_false (fun h => h hz)]
    clear hz
    go_enter Try.func70, Try.ntmps70
    go_wp2
    go_ret
    exact ⟨rfl, rfl⟩
  · have htl : ¬ k.toList = [] := by rw [tl_nil]; exact hz
    have hte : ¬ k = ByteArray.empty := by rw [emp_iff]; exact htl
    have hie : k.toList.isEmpty = false := by rw [empty_eq]; exact decide_eq_false hz
    rw [decide_eq_true hz]
    clear hz
    by_cases h1 : (k.size : Int) ≤ 64
    · rw [decide_eq_true h1]
      go_enter Try.func70, Try.ntmps70
      go_wp2
      all_goals
        go_ret
        exact ⟨by simp [*], rfl⟩
    · rw [decide_eq_false h1]
      go_enter Try.func70, Try.ntmps70
      go_wp2
      all_goals
        go_ret
        exact ⟨by first | (simp [*]; done) | (simp; omega), rfl⟩

set_option maxHeartbeats 4000000 in
set_option maxRecDepth 100000 in
theorem MayRow_calls (r : Rw) (w : World) :
    Calls Try.prog 56 #[.agg r.enc.toArray] w fun e w' => e = .returned (.bool (rowOk r)) ∧ Below w.heap.size w w' := by
  have hk := fun W => refKey_calls r.key W
  have hv : rowOk r = ((decide (r.key.size ≠ 0) && decide ((r.key.size : Int) ≤ 64)) && decide (1 ≤ r.stamp) && decide (r.stamp ≤ 1099511627776) && decide ((r.val.size : Int) ≤ 4096)) := by
    unfold rowOk; simp [Bool.and_assoc]
  rw [hv]
  clear hv
  unfold Rw.enc
  obtain ⟨k, s, v⟩ := r
  simp only at hk ⊢
  generalize (decide (k.size ≠ 0) && decide ((k.size : Int) ≤ 64)) = kv at hk ⊢
  have K := Asd.mk hk
  clear hk
  by_cases h1 : 1 ≤ s
  · by_cases h2 : s ≤ 1099511627776
    · by_cases h3 : (v.size : Int) ≤ 4096
      · rw [decide_eq_true h1, decide_eq_true h2, decide_eq_true h3]
        cases kv
        all_goals
          go_enter Try.func56, Try.ntmps56
          go_wp2_with fail
          refine (K.out _).mono ?_
          rintro e w1 ⟨rfl, rfl⟩
          go_wp2_with fail
          all_goals
            go_ret
            exact ⟨by first | rfl | (simp; done) | (simp [*]; done) | (simp; omega), (Below.refl _ _).alloc (Nat.le_refl _) _⟩
      · rw [decide_eq_true h1, decide_eq_true h2, decide_eq_false h3]
        cases kv
        all_goals
          go_enter Try.func56, Try.ntmps56
          go_wp2_with fail
          refine (K.out _).mono ?_
          rintro e w1 ⟨rfl, rfl⟩
          go_wp2_with fail
          all_goals
            go_ret
            exact ⟨by first | rfl | (simp; done) | (simp [*]; done) | (simp; omega), (Below.refl _ _).alloc (Nat.le_refl _) _⟩
    · rw [decide_eq_true h1, decide_eq_false h2]
      generalize decide ((v.size : Int) ≤ 4096) = z
      cases kv
      all_goals
        go_enter Try.func56, Try.ntmps56
        go_wp2_with fail
        refine (K.out _).mono ?_
        rintro e w1 ⟨rfl, rfl⟩
        go_wp2_with fail
        all_goals
          go_ret
          exact ⟨by first | rfl | (simp; done) | (simp [*]; done) | (simp; omega), (Below.refl _ _).alloc (Nat.le_refl _) _⟩
  · rw [decide_eq_false h1]
    generalize decide (s ≤ 1099511627776) = z0
    generalize decide ((v.size : Int) ≤ 4096) = z
    cases kv
    all_goals
      go_enter Try.func56, Try.ntmps56
      go_wp2_with fail
      refine (K.out _).mono ?_
      rintro e w1 ⟨rfl, rfl⟩
      go_wp2_with fail
      all_goals
        go_ret
        exact ⟨by first | rfl | (simp; done) | (simp [*]; done) | (simp; omega), (Below.refl _ _).alloc (Nat.le_refl _) _⟩

def FindR (l : List Rw) (x : ByteArray) (v : Int) : Prop := (there x l = false ∧ v = -1) ∨ (∃ i, ∃ (hi : i < l.length), v = (i : Int) ∧ l[i].key = x ∧ there x l = true)
def FindPost (w : World) (l : List Rw) (x : ByteArray) (e : Ending) (w' : World) : Prop := ∃ v : Int, e = .returned (.int .i64 v) ∧ w' = w ∧ FindR l x v
set_option maxHeartbeats 2000000 in
theorem RefFind_calls {base : Nat} {w : World} {A : Option Addr} {n c : Nat} {l : List Rw} (hr : Rd base 29 w 3 A n c (rowCells l)) (hbig : n ≤ 1000000) (x : ByteArray) :
    Calls Try.prog 46 #[.slice A n c, .string x] w (FindPost w l x) := by
  have hn := hr.count (enc := Rw.enc) (fun _ => rfl) (by omega)
  have R := Asd.mk hr
  have N := Asd.mk hn
  clear hr hn
  go_enter Try.func46, Try.ntmps46
  go_wp2_with fail
  go_loopw [5] (fun s5 wr => ∃ k : Nat, s5 = .int .i64 k ∧ k ≤ n ∧ Asd (wr = w) ∧ Asd (there x (l.take k) = false)) (fun s5 _ => n - (intOf s5).toNat)
  case atStart => exact ⟨0, rfl, Nat.zero_le _, ⟨rfl⟩, ⟨rfl⟩⟩
  case round =>
    obtain ⟨k, rfl, hkn, HW, I⟩ := hrel
    obtain rfl := HW.out
    by_cases hlt : k < n
    · have hil : k < l.length := by have := N.out; omega
      obtain ⟨b, off, rfl, _, _, c0, c1, c2⟩ := R.out.row hlt
      have hta : ∀ v, decide (l[k].key = x) = v → there x (l.take (k + 1)) = v := fun v hv => by
        have h0 := I.out
        unfold there at h0 ⊢
        rw [List.take_succ_eq_append_getElem hil, List.any_append, h0, List.any_cons, hv]
        simp
      have hat : l[k].key = x → ∃ i, ∃ (hi : i < l.length), (k : Int) = (i : Int) ∧ l[i].key = x ∧ there x l = true := fun h => ⟨k, hil, rfl, h, (there_iff _ _).2 ⟨_, List.getElem_mem hil, h⟩⟩
      generalize l[k] = y at c0 c1 c2 hta hat
      have TA := Asd.mk hta
      have AT := Asd.mk hat
      have hq : (y.key.toList == x.toList) = decide (y.key = x) := same_eq _ _
      clear hta hat
      by_cases hyx : y.key = x
      · rw [decide_eq_true hyx] at hq
        have ht : y.key.toList = x.toList := by rw [hyx]
        have A2 := Asd.mk (AT.out hyx)
        clear hyx
        go_wp2_with fail
        go_ret
        exact ⟨(k : Int), rfl, rfl, .inr A2.out⟩
      · have T2 := Asd.mk (TA.out _ (decide_eq_false hyx))
        rw [decide_eq_false hyx] at hq
        have ht : ¬ y.key.toList = x.toList := fun e => by rw [toList_eq, toList_eq] at e; exact hyx (key_ext e)
        clear hyx
        go_wp2_with fail
        go_roundw
        case measure => simp [intOf]; omega
        case rel => exact ⟨k + 1, by go_num, by omega, ⟨by simp⟩, T2⟩
    · have T2 : Asd (there x l = false) := ⟨by
        have h := I.out
        rwa [List.take_of_length_le (by have := N.out; omega)] at h⟩
      go_wp2_with fail
      go_ret
      exact ⟨-1, rfl, rfl, .inl ⟨T2.out, rfl⟩⟩
end Go.Proofs.Ytgiajfgeplekbaa

/- slices.Clone of rows; cmp.Less; slices.BinarySearch over texts. -/
import Derived.Test.YtgiajfgeplekbaaP1
set_option linter.unusedVariables false
set_option linter.unusedSimpArgs false
namespace Go.Proofs.Ytgiajfgeplekbaa
open Go.RowKit

theorem own_le' {w : World} {b b' e k n : Nat} {v : Value} {xs : List Value} (h : w.ownsRow b e k v n xs) (hb : b' ≤ b) : w.ownsRow b' e k v n xs :=
  ⟨h.1, h.2.imp id fun ⟨g, cap, cur, h1, h2, h3⟩ => ⟨g, cap, cur, h1, Nat.le_trans hb h2, h3⟩⟩
theorem wrapIn {z : Int} (h : -1000000 ≤ z ∧ z ≤ 1000000) : wrap64 z = z ∧ IntKind.i64.wrap z = z := by
  have h1 : wrap64 z = z := by unfold wrap64; omega
  exact ⟨h1, IntWalk.i64_in _ (by omega)⟩
set_option maxHeartbeats 2000000 in
theorem Clone_row {base : Nat} (w : World) (A : Option Addr) (n c : Nat) (xs : List Value) (hr : Rd base 29 w 3 A n c xs) (h1 : ∀ u ∈ xs, u.oneCell' = true) (hbig : n * 40 ≤ 140737488355328) :
    Calls Try.prog 41 #[.slice A n c] w fun e w' => ∃ A' c', e = .returned (.slice A' n c') ∧ Rd base 29 w' 3 A' n c' xs ∧ w'.ownsRow w.heap.size 29 3 (.slice A' n c') n xs ∧ Below w.heap.size w w' := by
  have R := Asd.mk hr
  have O := Asd.mk h1
  have HB := Asd.mk hbig
  clear hbig
  rcases A with _ | a
  · have h0 : c = 0 := hr.nil rfl
    have h2 : n = 0 := by have := hr.cap; omega
    have h3 : xs = [] := List.eq_nil_of_length_eq_zero (by have := hr.len; omega)
    subst h0 h2 h3
    have hnil := fun w => Lib.run_eql_slice_nil (P := Try.prog) w 22 29 none 0 0 0 0 Try.underlying22
    clear hr h1 R O HB
    go_enter Try.func41, Try.ntmps41
    go_wp2
    go_ret
    exact ⟨none, 0, rfl, Rd.none_, World.ownsRow_nil _ _ _ _, Below.refl _ _⟩
  · have hnil := fun w => Lib.run_eql_slice_nil (P := Try.prog) w 22 29 (some a) n c 0 0 Try.underlying22
    clear hr h1
    go_enter Try.func41, Try.ntmps41
    go_wp2_with (at_builtin; refine wpList_append_mine (base := base) (own := w.heap.size) (v := .slice (some ⟨w.heap.size, 0, none⟩) 0 0) (n := 0) (xs := []) rfl (.tmp 5) (.tmp 6) 22 rfl elt_row rfl rfl (World.ownsRow_made w #[] 0 (Nat.le_refl _) (by simp [maxLen]) (by simp)) (R.out.alloc _) O.out (by have := HB.out; simp only [maxLen]; omega) (by have := HB.out; omega) (by simp) ?_; intro v' w' O1 G1; rw [Nat.zero_add] at O1; rw [List.nil_append] at O1; obtain ⟨A', c', rfl, R1⟩ := Rd.of_own (base := base) O1)
    go_ret
    refine ⟨A', c', rfl, R1, O1, ?_⟩
    exact ((Below.refl _ _).alloc (Nat.le_refl _) _).grown G1 (by simp) (fun k hk => by simp [Value.ownBlock] at hk; subst hk; exact Nat.le_refl _)


theorem cmpNaN_calls (x : ByteArray) (w : World) : Calls Try.prog 71 #[.string x] w fun e w' => e = .returned (.bool false) ∧ w' = w := by
  go_enter Try.func71, Try.ntmps71
  go_wp2
  go_ret
  exact ⟨by simp, rfl⟩
theorem slNaN_calls (x : ByteArray) (w : World) : Calls Try.prog 59 #[.string x] w fun e w' => e = .returned (.bool false) ∧ w' = w := by
  go_enter Try.func59, Try.ntmps59
  go_wp2
  go_ret
  exact ⟨by simp, rfl⟩
theorem Less_calls (x y : ByteArray) (w : World) : Calls Try.prog 58 #[.string x, .string y] w fun e w' => e = .returned (.bool (decide (klt x y))) ∧ w' = w := by
  have h1 := less_eq x y
  generalize decide (klt x y) = v at h1 ⊢
  go_enter Try.func58, Try.ntmps58
  go_wp2_with (go_at_call 71; refine (cmpNaN_calls _ _).mono ?_; rintro e w' ⟨rfl, rfl⟩)
  go_ret
  exact ⟨by first | rfl | (rw [h1]; rfl), rfl⟩

def BsPost (w : World) (l : List ByteArray) (x : ByteArray) (e : Ending) (w' : World) : Prop := ∃ i : Int, e = .returned (.tuple #[.int .i64 i, .bool (decide (x ∈ l))]) ∧ w' = w
set_option maxHeartbeats 2000000 in
/-- slices.BinarySearch over rising texts. -/
theorem BinarySearch_calls {base : Nat} {w : World} {A : Option Addr} {n c : Nat} {l : List ByteArray} (hr : Rd base 9 w 1 A n c (tCells l)) (hbig : n ≤ 1000000) (hs : l.Pairwise klt) (x : ByteArray) :
    Calls Try.prog 47 #[.slice A n c, .string x] w (BsPost w l x) := by
  have hn := hr.count (enc := fun s => [.string s]) (fun _ => rfl) (by omega)
  have hth : ∀ i (hi : i < l.length), (∀ t (h : t < l.length), t < i → klt l[t] x) → ¬ klt l[i] x → (x ∈ l ↔ l[i] = x) := by
    intro i hi h1 h2
    constructor
    · intro hx
      obtain ⟨t, ht, e⟩ := List.getElem_of_mem hx
      rcases Nat.lt_trichotomy t i with h | h | h
      · exact absurd e (klt_ne (h1 t ht h))
      · subst h; exact e
      · have := List.pairwise_iff_getElem.1 hs i t hi ht h
        rw [e] at this
        exact absurd this h2
    · intro e
      rw [← e]
      exact List.getElem_mem hi
  have hth0 : (∀ t (h : t < l.length), klt l[t] x) → ¬ x ∈ l := by
    intro h1 hx
    obtain ⟨t, ht, e⟩ := List.getElem_of_mem hx
    exact klt_ne (h1 t ht) e
  have TH := Asd.mk hth
  have TH0 := Asd.mk hth0
  have SR := Asd.mk hs
  have R := Asd.mk hr
  have HN := Asd.mk hn
  clear hth hth0 hs hr hn
  go_enter Try.func47, Try.ntmps47
  go_wp2_with fail
  go_loopw [7, 8] (fun s7 s8 wr => ∃ lo hi : Nat, s7 = .int .i64 lo ∧ s8 = .int .i64 hi ∧ lo ≤ hi ∧ hi ≤ n ∧ Asd (wr = w) ∧
      Asd (∀ t (h : t < l.length), t < lo → klt l[t] x) ∧ Asd (∀ t (h : t < l.length), hi ≤ t → ¬ klt l[t] x)) (fun s7 s8 _ => (intOf s8 - intOf s7).toNat)
  case atStart => exact ⟨0, n, rfl, rfl, Nat.zero_le _, Nat.le_refl _, ⟨rfl⟩, ⟨fun t _ ht => absurd ht (Nat.not_lt_zero _)⟩, ⟨fun t h ht => by have := HN.out; omega⟩⟩
  case round =>
    obtain ⟨lo, hi, rfl, rfl, hlh, hin, HW, I1, I2⟩ := hrel
    obtain rfl := HW.out
    by_cases hlt : lo < hi
    · obtain ⟨b, off, rfl, hb, hil, hcs⟩ := R.out.at_enc (enc := fun s => [.string s]) (fun _ => rfl) (by omega) (i := (lo + hi) / 2) (by omega)
      have c0 : wr.cell? ⟨b, off + (lo + hi) / 2, none⟩ = some (.string l[(lo + hi) / 2]) := by simpa using hcs 0 _ rfl
      obtain ⟨y, hy⟩ : ∃ y, l[(lo + hi) / 2] = y := ⟨_, rfl⟩
      rw [hy] at c0
      have Y := Asd.mk hy
      clear hy hcs
      have hc := Less_calls y x wr
      by_cases hyx : klt y x
      · rw [decide_eq_true hyx] at hc
        have C := Asd.mk hc
        have YX := Asd.mk hyx
        clear hyx hc
        go_wp2_with fail
        refine C.out.mono ?_
        rintro e w' ⟨rfl, hw'⟩
        subst hw'
        go_wp2_with fail
        go_roundw
        case measure => simp [intOf]; omega
        case rel =>
          refine ⟨(lo + hi) / 2 + 1, hi, by go_num, rfl, by omega, hin, ⟨by simp⟩, ⟨fun t h ht => ?_⟩, I2⟩
          rcases Nat.lt_or_ge t ((lo + hi) / 2) with h1 | h1
          · exact klt_trans (List.pairwise_iff_getElem.1 SR.out t _ h hil h1) (by rw [Y.out]; exact YX.out)
          · obtain rfl : t = (lo + hi) / 2 := by omega
            rw [Y.out]; exact YX.out
      · rw [decide_eq_false hyx] at hc
        have C := Asd.mk hc
        have YX := Asd.mk hyx
        clear hyx hc
        go_wp2_with fail
        refine C.out.mono ?_
        rintro e w' ⟨rfl, hw'⟩
        subst hw'
        go_wp2_with fail
        go_roundw
        case measure => simp [intOf]; omega
        case rel =>
          refine ⟨lo, (lo + hi) / 2, rfl, by go_num, by omega, by omega, ⟨by simp⟩, I1, ⟨fun t h ht => ?_⟩⟩
          rcases Nat.lt_or_ge ((lo + hi) / 2) t with h1 | h1
          · intro h2
            exact YX.out (by rw [← Y.out]; exact klt_trans (List.pairwise_iff_getElem.1 SR.out _ t hil h h1) h2)
          · obtain rfl : t = (lo + hi) / 2 := by omega
            rw [Y.out]; exact YX.out
    · obtain rfl : hi = lo := by omega
      by_cases hlast : hi < n
      · obtain ⟨b, off, rfl, hb, hil, hcs⟩ := R.out.at_enc (enc := fun s => [.string s]) (fun _ => rfl) (by omega) (i := hi) hlast
        have hcap : hi < c := Nat.lt_of_lt_of_le hlast R.out.cap
        have c0 : wr.cell? ⟨b, off + hi, none⟩ = some (.string l[hi]) := by simpa using hcs 0 _ rfl
        have hth := TH.out hi hil I1.out (I2.out hi hil (Nat.le_refl _))
        obtain ⟨y, hy⟩ : ∃ y, l[hi] = y := ⟨_, rfl⟩
        rw [hy] at c0 hth
        have hq : (y.toList == x.toList) = decide (y = x) := same_eq _ _
        clear hcs hy
        by_cases hyx : y = x
        · rw [decide_eq_true hyx] at hq
          have ht : y.toList = x.toList := by rw [hyx]
          have M := Asd.mk (hth.2 hyx)
          clear hyx hth
          go_wp2_with fail
          go_ret2
          exact ⟨(hi : Int), by rw [decide_eq_true M.out]; rfl, rfl⟩
        · rw [decide_eq_false hyx] at hq
          have ht : ¬ y.toList = x.toList := fun e => by rw [toList_eq, toList_eq] at e; exact hyx (key_ext e)
          have M : Asd (¬ x ∈ l) := ⟨fun h => hyx (hth.1 h)⟩
          clear hyx hth
          go_wp2_with fail
          refine (slNaN_calls y _).mono ?_
          rintro e w' ⟨rfl, hw'⟩
          subst hw'
          go_wp2_with fail
          go_ret2
          exact ⟨(hi : Int), by rw [decide_eq_false M.out]; rfl, rfl⟩
      · have M := Asd.mk (TH0.out fun t h => I1.out t h (by have := HN.out; omega))
        have h1 : decide ((hi : Int) < (n : Int)) = false := decide_eq_false (by omega)
        go_wp2_with fail
        go_ret2
        exact ⟨(hi : Int), by rw [decide_eq_false M.out]; rfl, rfl⟩
end Go.Proofs.Ytgiajfgeplekbaa

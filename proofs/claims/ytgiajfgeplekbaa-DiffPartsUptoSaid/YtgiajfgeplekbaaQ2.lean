/- The document's wrong. -/
import Derived.Test.YtgiajfgeplekbaaQ1
set_option linter.unusedVariables false
set_option linter.unusedSimpArgs false
namespace Go.Proofs.Ytgiajfgeplekbaa
open Go.RowKit

theorem sorted_snoc {l : List Rw} {i : Nat} (h : Sorted (l.take i)) (hi : i < l.length) (hl : ∀ j (hj : j + 1 = i), klt (l[j]'(by omega)).key l[i].key) : Sorted (l.take (i + 1)) := by
  rw [List.take_succ_eq_append_getElem hi]
  refine List.pairwise_append.2 ⟨h, List.pairwise_singleton _ _, fun y hy z hz => ?_⟩
  rw [List.mem_singleton] at hz
  subst hz
  obtain ⟨t, ht, rfl⟩ := List.getElem_of_mem hy
  rw [List.length_take] at ht
  rw [List.getElem_take]
  obtain ⟨j, hj⟩ : ∃ j, j + 1 = i := ⟨i - 1, by omega⟩
  rcases Nat.lt_or_ge t j with h1 | h1
  · have h2 := List.pairwise_iff_getElem.1 h t j (by rw [List.length_take]; omega) (by rw [List.length_take]; omega) h1
    rw [List.getElem_take, List.getElem_take] at h2
    exact klt_trans h2 (hl j hj)
  · obtain rfl : t = j := by omega
    exact hl t hj
theorem wrongP_bad {l : List Rw} {r : Rw} (hr : r ∈ l) (h : rowOk r = false) : wrongP l = 80 := by
  unfold wrongP
  rw [if_pos (List.any_eq_true.2 ⟨r, hr, by rw [h]; rfl⟩)]
theorem wrongP_four {l : List Rw} (h : ∀ r ∈ l, rowOk r = true) (hs : ¬ Sorted l) : wrongP l = 4 := by
  unfold wrongP
  rw [if_neg, if_neg hs]
  rw [List.any_eq_true]
  rintro ⟨r, hr, h2⟩
  rw [h r hr] at h2
  cases h2
theorem row_at {base : Nat} {w : World} {b off n c : Nat} {l : List Rw} (h : Rd base 29 w 3 (some ⟨b, off, none⟩) n c (rowCells l)) {i : Nat} (hi : i < n) (hl : i < l.length) :
    w.cell? ⟨b, off + i * 3, none⟩ = some (.string l[i].key) ∧ w.cell? ⟨b, off + i * 3 + 1, none⟩ = some (.int .i64 l[i].stamp) ∧ w.cell? ⟨b, off + i * 3 + 2, none⟩ = some (.string l[i].val) := by
  obtain ⟨b', off', hA, _, _, c0, c1, c2⟩ := h.row hi
  cases hA
  exact ⟨c0, c1, c2⟩

set_option maxHeartbeats 8000000 in
set_option maxRecDepth 100000 in
theorem RefWrong_calls {base : Nat} {w : World} {B : Option Addr} {n d : Nat} {rows : List Rw} (hr : Rd base 29 w 3 B n d (rowCells rows)) (hn : n ≤ 100000) :
    Calls Try.prog 39 #[.slice B n d] w fun e w' => e = .returned (.int .i64 (wrongP rows)) ∧ Below w.heap.size w w' := by
  have hcnt := hr.count (enc := Rw.enc) (fun _ => rfl) (by omega)
  have R := Asd.mk hr
  have N := Asd.mk hcnt
  generalize hp : wrongP rows = p
  have P := Asd.mk hp
  clear hr hcnt hp
  go_enter Try.func39, Try.ntmps39
  go_wp2_with fail
  go_loopw [3] (fun s3 wr => ∃ k : Nat, s3 = .int .i64 k ∧ k ≤ n ∧ Asd (Below w.heap.size w wr) ∧ Asd (∀ r ∈ rows.take k, rowOk r = true)) (fun s3 _ => n - (intOf s3).toNat)
  case atStart => exact ⟨0, rfl, by omega, ⟨Below.refl _ _⟩, ⟨fun r h => by simp at h⟩⟩
  case round =>
    obtain ⟨k, rfl, hkn, BW, IW⟩ := hrel
    by_cases hlt : k < n
    · have hil : k < rows.length := by have := N.out; omega
      obtain ⟨b, off, rfl, _, _, c0, c1, c2⟩ := (R.out.below BW.out).row hlt
      have hcap : k < d := Nat.lt_of_lt_of_le hlt R.out.cap
      have hta : rowOk rows[k] = true → ∀ r ∈ rows.take (k + 1), rowOk r = true := fun h r hr => by
        rw [List.take_succ_eq_append_getElem hil] at hr
        rcases List.mem_append.1 hr with h1 | h1
        · exact IW.out r h1
        · rw [List.mem_singleton] at h1; subst h1; exact h
      have hbad : rowOk rows[k] = false → p = 80 := fun h => P.out ▸ wrongP_bad (List.getElem_mem hil) h
      have hc := MayRow_calls rows[k] wr
      generalize rows[k] = y at c0 c1 c2 hta hbad hc
      unfold Rw.enc at hc
      have TA := Asd.mk hta
      have BD := Asd.mk hbad
      clear hta hbad
      cases hq : rowOk y with
      | true =>
        rw [hq] at hc
        have C := Asd.mk hc
        have T2 := Asd.mk (TA.out hq)
        clear hc hq
        go_wp2_with fail
        refine C.out.mono ?_
        rintro e w' ⟨rfl, hb'⟩
        go_wp2_with fail
        go_roundw
        case measure => simp [intOf]; omega
        case rel => exact ⟨k + 1, by go_num, by omega, ⟨BW.out.trans (hb'.mono BW.out.size)⟩, T2⟩
      | false =>
        rw [hq] at hc
        have C := Asd.mk hc
        have T2 := Asd.mk (BD.out hq)
        clear hc hq
        go_wp2_with fail
        refine C.out.mono ?_
        rintro e w' ⟨rfl, hb'⟩
        go_wp2_with fail
        go_ret
        exact ⟨by rw [T2.out]; rfl, BW.out.trans (hb'.mono BW.out.size)⟩
    · have ALL : Asd (∀ r ∈ rows, rowOk r = true) := ⟨by
        have h := IW.out
        rwa [List.take_of_length_le (by have := N.out; omega)] at h⟩
      clear IW
      go_wp2_with fail
      go_loopw [4] (fun s4 wv => ∃ k : Nat, s4 = .int .i64 k ∧ 1 ≤ k ∧ k ≤ n + 1 ∧ Asd (Below w.heap.size w wv) ∧ Asd (Sorted (rows.take k))) (fun s4 _ => n + 1 - (intOf s4).toNat)
      case atStart => exact ⟨1, rfl, by omega, by omega, BW, ⟨by
        match rows with
        | [] => exact List.Pairwise.nil
        | [x] => exact List.pairwise_singleton _ _
        | x :: y :: l => exact List.pairwise_singleton _ _⟩⟩
      case round =>
        clear BW
        obtain ⟨k, rfl, hk1, hkn1, BW, SO⟩ := hrel
        by_cases hlt2 : k < n
        · have hil : k < rows.length := by have := N.out; omega
          obtain ⟨b, off, rfl, hbl, _, c0, _, _⟩ := (R.out.below BW.out).row hlt2
          have hcap : k < d := Nat.lt_of_lt_of_le hlt2 R.out.cap
          obtain ⟨j, hj⟩ : ∃ j, j + 1 = k := ⟨k - 1, by omega⟩
          have hjl : j < rows.length := by omega
          have hjn : j < n := by omega
          have hjd : j < d := by omega
          have d0 := (row_at (R.out.below BW.out) hjn hjl).1
          have hsn : klt rows[j].key rows[k].key → Sorted (rows.take (k + 1)) := fun h => sorted_snoc SO.out hil (fun j' hj' => (by have e : j' = j := (by omega); subst e; exact h))
          have hno : ¬ klt rows[j].key rows[k].key → p = 4 := fun h => P.out ▸ wrongP_four ALL.out (fun hs => h (List.pairwise_iff_getElem.1 hs j k hjl hil (by omega)))
          generalize rows[j].key = x at d0 hsn hno
          generalize rows[k].key = y at c0 hsn hno
          have l1 := less_eq x y
          have hij : (k : Int) - 1 = (j : Int) := by omega
          have hw1 : wrap64 ((k : Int) - 1) = (j : Int) := by rw [hij]; exact (wrapIn (by omega)).1
          have hw2 : IntKind.i64.wrap ((k : Int) - 1) = (j : Int) := by rw [hij]; exact (wrapIn (by omega)).2
          have SN := Asd.mk hsn
          have NO := Asd.mk hno
          have HJ := Asd.mk hj
          clear hij hsn hno hj
          by_cases hl : klt x y
          · rw [decide_eq_true hl] at l1
            have S2 := Asd.mk (SN.out hl)
            clear hl
            go_wp2_with fail
            go_quiet (fail)
            have B5 := Asd.mk (BW.out.trans (below_dn (B := w.heap.size) _ nq))
            clear hw1 hw2 d0 c0
            generalize wr.drewN nq = w5 at *
            go_wp2_with fail
            go_roundw
            case measure => simp [intOf]; omega
            case rel => exact ⟨k + 1, by go_num, by omega, by omega, B5, S2⟩
          · rw [decide_eq_false hl] at l1
            have S2 := Asd.mk (NO.out hl)
            clear hl
            go_wp2_with fail
            go_quiet (fail)
            have B5 := Asd.mk (BW.out.trans (below_dn (B := w.heap.size) _ nq))
            clear hw1 hw2 d0 c0
            generalize wr.drewN nq = w5 at *
            go_wp2_with fail
            go_ret
            exact ⟨by rw [S2.out]; rfl, B5.out⟩
        · have S2 : Asd (p = 0) := ⟨by
            have h := SO.out
            rw [List.take_of_length_le (by have := N.out; omega)] at h
            exact P.out ▸ wrongP_zero.2 ⟨ALL.out, h⟩⟩
          go_wp2_with fail
          go_ret
          exact ⟨by rw [S2.out]; rfl, BW.out⟩
end Go.Proofs.Ytgiajfgeplekbaa

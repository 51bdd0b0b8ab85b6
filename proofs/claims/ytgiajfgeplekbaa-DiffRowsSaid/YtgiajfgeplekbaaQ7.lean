/- DiffRows, the walk. -/
import Derived.Test.YtgiajfgeplekbaaQ5
import Derived.Test.YtgiajfgeplekbaaQ6
set_option linter.unusedVariables false
set_option linter.unusedSimpArgs false
namespace Go.Proofs.Ytgiajfgeplekbaa
open Go.RowKit
theorem spoil_below {w w' : World} {own k n c : Nat} {T : TypeId} {A : Option Addr} {xs : List Value} {e : Ending} (hO : w.ownsRow own T k (.slice A n c) n xs) (h : SpoilPost w (.slice A n c) e w') : Below own w w' := by
  rcases h.2 with rfl | ⟨g, hg, h1⟩
  · exact Below.refl _ _
  · exact h1.below (hO.lt g hg).1
set_option maxHeartbeats 16000000 in
set_option maxRecDepth 100000 in
theorem Rows_walk {w : World} {A B D : Option Addr} {n c m d q f : Nat} {a b : List Rw} {ds : List ByteArray} (ha : Rd w.heap.size 29 w 3 A n c (rowCells a)) (hb : Rd w.heap.size 29 w 3 B m d (rowCells b)) (hd : Rd w.heap.size 9 w 1 D q f (tCells ds)) :
    Calls Try.prog 7 #[.slice A n c, .slice B m d, .slice D q f] w fun e w' => e = .returned (.bool true) ∧ Below w.heap.size w w' := by
  have RA := Asd.mk ha
  have RB := Asd.mk hb
  have RD := Asd.mk hd
  clear ha hb hd
  by_cases hn : (300 : Int) < (n : Int)
  · go_enter Try.func7, Try.ntmps7
    go_wp2_with fail
    refine (works_calls _).mono ?_
    rintro e w1 ⟨rfl, hb1⟩
    go_wp2_with fail
    go_ret
    exact ⟨rfl, hb1⟩
  by_cases hm : (300 : Int) < (m : Int)
  · go_enter Try.func7, Try.ntmps7
    go_wp2_with fail
    refine (works_calls _).mono ?_
    rintro e w1 ⟨rfl, hb1⟩
    go_wp2_with fail
    go_ret
    exact ⟨rfl, hb1⟩
  by_cases hq : (300 : Int) < (q : Int)
  · go_enter Try.func7, Try.ntmps7
    go_wp2_with fail
    refine (works_calls _).mono ?_
    rintro e w1 ⟨rfl, hb1⟩
    go_wp2_with fail
    go_ret
    exact ⟨rfl, hb1⟩
  go_enter Try.func7, Try.ntmps7
  go_wp2_with (first
    | (at_builtin; refine wpList_append_full (base := w.heap.size) (n := 0) (c := 0) (m := n) (xs := []) (ys := rowCells a) rfl (.tmp 35) (.tmp 36) 22 rfl elt_row rfl rfl (Rd.empty_ _ (fun h => by cases h)) (RA.out.alloc _) (by omega) (row_one _) (by unfold maxLen; omega) (by omega) ?_; intro A1 c1 w1 F1; have B1 := Asd.mk (((Below.refl w.heap.size w).alloc (Nat.le_refl _) (.cells #[] 29)).trans (F1.below.mono (by simp))); have R1 := Asd.mk F1.rd; clear F1)
    | (at_builtin; refine wpList_append_full (base := w.heap.size) (n := 0) (c := 0) (m := m) (xs := []) (ys := rowCells b) rfl (.tmp 38) (.tmp 39) 22 rfl elt_row rfl rfl (Rd.empty_ _ (fun h => by cases h)) ((RB.out.below B1.out).alloc _) (by omega) (row_one _) (by unfold maxLen; omega) (by omega) ?_; intro A2 c2 w2 F2; have B2 := Asd.mk ((B1.out.alloc B1.out.size (.cells #[] 29)).trans (F2.below.mono (by have := B1.out.size; simp; omega))); have R1' := Asd.mk ((R1.out.alloc (.cells #[] 29)).below F2.below); have R2 := Asd.mk F2.rd; clear F2)
    | (at_builtin; refine wpList_append_full (base := w.heap.size) (n := 0) (c := 0) (m := q) (xs := []) (ys := tCells ds) rfl (.tmp 41) (.tmp 42) 24 rfl elt_str rfl rfl (Rd.empty_ _ (fun h => by cases h)) ((RD.out.below B2.out).alloc _) (by omega) (txt_one _) (by unfold maxLen; omega) (by omega) ?_; intro A3 c3 w3 F3; have B3 := Asd.mk ((B2.out.alloc B2.out.size (.cells #[] 9)).trans (F3.below.mono (by have := B2.out.size; simp; omega))); have R1'' := Asd.mk ((R1'.out.alloc (.cells #[] 9)).below F3.below); have R2' := Asd.mk ((R2.out.alloc (.cells #[] 9)).below F3.below); have R3 := Asd.mk F3.rd; clear F3))
  have XX : Asd (Rd w.heap.size 29 w3 3 A1 n c1 (rowCells a)) := ⟨by have h := R1''.out; rw [Nat.zero_add] at h; exact h⟩
  have YY : Asd (Rd w.heap.size 29 w3 3 A2 m c2 (rowCells b)) := ⟨by have h := R2'.out; rw [Nat.zero_add] at h; exact h⟩
  have ZZ : Asd (Rd w.heap.size 9 w3 1 A3 q c3 (tCells ds)) := ⟨by have h := R3.out; rw [Nat.zero_add] at h; exact h⟩
  clear R1 R1' R1'' R2 R2' R3 B1 B2
  refine (Diff_calls XX.out YY.out (by omega) (by omega) B3.out.size).mono ?_
  rintro e w4 ⟨P, E, np, cp, ne, ce, rfl, hb4, hP, hE⟩
  have B4 := Asd.mk (B3.out.trans (hb4.mono B3.out.size))
  have D4 := Asd.mk hb4
  have P4 := Asd.mk hP
  have E4 := Asd.mk hE
  have HNP := Asd.mk (own_len hP)
  have HNE := Asd.mk (own_tlen hE)
  clear hb4 hP hE
  go_wp2_with fail
  refine (RefDiff_calls (RA.out.below B4.out) (RB.out.below B4.out) (by omega) (by omega)).mono ?_
  rintro e w5 ⟨P', E', np', cp', ne', ce', rfl, hb5, hP', hE'⟩
  have B5 := Asd.mk (B4.out.trans (hb5.mono B4.out.size))
  have D5 := Asd.mk (D4.out.trans (hb5.mono D4.out.size))
  have P5 := Asd.mk (P4.out.kept (gb_below hb5 none) (by cases (Value.slice P np cp).ownBlock <;> simp))
  have E5 := Asd.mk (E4.out.kept (gb_below hb5 none) (by cases (Value.slice E ne ce).ownBlock <;> simp))
  have LT5 : Asd (∀ j, (Value.slice P np cp).ownBlock = some j → j < w5.heap.size) := ⟨fun j hj => Nat.lt_of_lt_of_le (P4.out.lt j hj).2 hb5.size⟩
  have W35 := Asd.mk D5.out.size
  have X5 := Asd.mk (XX.out.below D5.out)
  have Y5 := Asd.mk (YY.out.below D5.out)
  have Z5 := Asd.mk (ZZ.out.below D5.out)
  obtain ⟨_, _, e1, hRP'⟩ := Rd.of_own (base := w.heap.size) hP'
  cases e1
  obtain ⟨_, _, e1, hRE'⟩ := Rd.of_own (base := w.heap.size) hE'
  cases e1
  have PR5 := Asd.mk hRP'
  have ER5 := Asd.mk hRE'
  clear hb5 hP' hE' hRP' hRE' P4 E4 B4 D4
  go_wp2_with fail
  refine (Patch_calls X5.out Y5.out Z5.out (by omega) (by omega) (by omega) B5.out.size).mono ?_
  rintro e w6 ⟨Q, nq, cq, l, err, rfl, hb6, hQ, hr⟩
  have B6 := Asd.mk (B5.out.trans (hb6.mono B5.out.size))
  have D6 := Asd.mk (D5.out.trans (hb6.mono D5.out.size))
  have P6 := Asd.mk (P5.out.kept (gb_below hb6 none) (by cases (Value.slice P np cp).ownBlock <;> simp))
  have E6 := Asd.mk (E5.out.kept (gb_below hb6 none) (by cases (Value.slice E ne ce).ownBlock <;> simp))
  have PR6 := Asd.mk (PR5.out.below hb6)
  have ER6 := Asd.mk (ER5.out.below hb6)
  have Q6 := Asd.mk hQ
  have HR := Asd.mk hr
  have LQ6 : Asd (∀ j, (Value.slice Q nq cq).ownBlock = some j → w5.heap.size ≤ j) := ⟨fun j hj => (hQ.lt j hj).1⟩
  clear hb6 hQ hr P5 E5 PR5 ER5 B5 D5 X5 Y5 Z5
  go_wp2_with fail
  refine (RefPatch_calls (RA.out.below B6.out) (RB.out.below B6.out) (RD.out.below B6.out) (by omega) (by omega) (by omega)).mono ?_
  rintro e w7 ⟨Q', nq', cq', l', err', rfl, hb7, hQ', hr'⟩
  obtain ⟨hll, hee⟩ := patch_same HR.out hr'
  subst hll hee
  have B7 := Asd.mk (B6.out.trans (hb7.mono B6.out.size))
  have D7 := Asd.mk (D6.out.trans (hb7.mono D6.out.size))
  have P7 := Asd.mk (P6.out.kept (gb_below hb7 none) (by cases (Value.slice P np cp).ownBlock <;> simp))
  have E7 := Asd.mk (E6.out.kept (gb_below hb7 none) (by cases (Value.slice E ne ce).ownBlock <;> simp))
  have Q7 := Asd.mk (Q6.out.kept (gb_below hb7 none) (by cases (Value.slice Q nq cq).ownBlock <;> simp))
  have PR7 := Asd.mk (PR6.out.below hb7)
  have ER7 := Asd.mk (ER6.out.below hb7)
  obtain ⟨_, _, e1, hRQ'⟩ := Rd.of_own (base := w.heap.size) hQ'
  cases e1
  have QR7 := Asd.mk hRQ'
  obtain ⟨_, _, e1, hRP⟩ := Rd.of_own (base := w.heap.size) P7.out
  cases e1
  obtain ⟨_, _, e1, hRE⟩ := Rd.of_own (base := w.heap.size) E7.out
  cases e1
  obtain ⟨_, _, e1, hRQ⟩ := Rd.of_own (base := w.heap.size) Q7.out
  cases e1
  have PP7 := Asd.mk hRP
  have EE7 := Asd.mk hRE
  have QQ7 := Asd.mk hRQ
  have hnp2 : np ≤ 140737488355328 := by
    have h1 := putP_len a b
    have h2 := RB.out.count (enc := Rw.enc) (fun _ => rfl) (by omega)
    have hnp := HNP.out
    unfold putR at hnp
    split at hnp
    · omega
    · simp at hnp; omega
  have hne2 : ne ≤ 140737488355328 := by
    have h1 := goneP_len a b
    have h2 := RA.out.count (enc := Rw.enc) (fun _ => rfl) (by omega)
    have hne := HNE.out
    unfold goneR at hne
    split at hne
    · omega
    · simp at hne; omega
  have hnq2 : nq ≤ 140737488355328 := by
    have h1 := own_len Q7.out
    have h3 := RA.out.count (enc := Rw.enc) (fun _ => rfl) (by omega)
    have h4 := RB.out.count (enc := Rw.enc) (fun _ => rfl) (by omega)
    have h2 : l.length ≤ 600 := by
      rcases HR.out with ⟨_, _, h⟩ | ⟨_, ⟨_, _, h⟩ | ⟨_, _, h⟩⟩
      · rw [h]; simp
      · rw [h]; simp
      · have h5 := h.perm.length_eq
        have h6 := leftP_len a b ds
        rw [List.length_append] at h5
        omega
    omega
  have NP2 := Asd.mk hnp2
  have NE2 := Asd.mk hne2
  have NQ2 := Asd.mk hnq2
  generalize errP a b = er at *
  clear hr' HR hb7 hQ' hRQ' hRP hRE hRQ P6 E6 Q6 PR6 ER6 B6 D6 hnp2 hne2 hnq2
  have S1 := Asd.mk (SameRows_calls PP7.out PR7.out NP2.out)
  rw [decide_eq_true rfl] at S1
  go_wp2_with fail
  refine S1.out.mono ?_
  rintro e w8 ⟨rfl, hb8⟩
  have S2 := Asd.mk (SameTexts_calls (EE7.out.below hb8) (ER7.out.below hb8) NE2.out)
  rw [decide_eq_true rfl] at S2
  clear S1
  go_wp2_with fail
  refine S2.out.mono ?_
  rintro e w9 ⟨rfl, q9, hq9⟩
  have hb9 : Below w8.heap.size w8 w9 := hq9 ▸ below_dn _ _
  have D89 := Asd.mk (hb8.trans (hb9.mono hb8.size))
  have S3 := Asd.mk (SameRows_calls (QQ7.out.below D89.out) (QR7.out.below D89.out) NQ2.out)
  rw [decide_eq_true rfl] at S3
  clear S2 hb8 hq9 hb9
  go_wp2_with fail
  refine S3.out.mono ?_
  rintro e w10 ⟨rfl, hb10⟩
  have D7t := Asd.mk (D89.out.trans (hb10.mono D89.out.size))
  have B10 := Asd.mk (B7.out.trans (D7t.out.mono B7.out.size))
  have D10 := Asd.mk (D7.out.trans (D7t.out.mono D7.out.size))
  have P10 := Asd.mk (P7.out.kept (gb_below D7t.out none) (by cases (Value.slice P np cp).ownBlock <;> simp))
  have Q10 := Asd.mk (Q7.out.kept (gb_below D7t.out none) (by cases (Value.slice Q nq cq).ownBlock <;> simp))
  clear S3 D89 hb10 D7t P7 E7 Q7 PP7 EE7 QQ7 PR7 ER7 QR7 B7 D7
  go_wp2_with fail
  refine (SpoilRows_calls P10.out (own_capmax P10.out)).mono ?_
  rintro e w11 hs11
  have D11 := Asd.mk (D10.out.trans (spoil_below P10.out hs11))
  have B11 := Asd.mk (B3.out.trans (D11.out.mono B3.out.size))
  have Q11 : Asd (w11.ownsRow w5.heap.size 29 3 (.slice Q nq cq) nq (rowCells l)) := ⟨by
    rcases hs11.2 with h | ⟨g, hg, h⟩
    · rw [h]; exact Q10.out
    · exact h.own Q10.out (fun j hj e => by
        have h1 := LQ6.out j hj
        have h2 := LT5.out g hg
        omega)⟩
  obtain ⟨rfl, hs11⟩ := hs11
  clear hs11 D10 P10 Q10 B10
  go_wp2_with fail
  refine (SpoilRows_calls Q11.out (own_capmax Q11.out)).mono ?_
  rintro e w12 hs12
  have hb12 := spoil_below Q11.out hs12
  have D12 : Asd (Below w3.heap.size w3 w12) := ⟨D11.out.trans (hb12.mono W35.out)⟩
  have B12 := Asd.mk (B3.out.trans (D12.out.mono B3.out.size))
  have X12 := Asd.mk (XX.out.below D12.out)
  have Y12 := Asd.mk (YY.out.below D12.out)
  have Z12 := Asd.mk (ZZ.out.below D12.out)
  obtain ⟨rfl, hs12⟩ := hs12
  have S1 := Asd.mk (SameRows_calls X12.out (RA.out.below B12.out) (by omega))
  rw [decide_eq_true rfl] at S1
  clear hs12 hb12 D11 B11 Q11
  go_wp2_with fail
  refine S1.out.mono ?_
  rintro e w13 ⟨rfl, hb13⟩
  have B13 := Asd.mk (B12.out.trans (hb13.mono B12.out.size))
  have S2 := Asd.mk (SameRows_calls (Y12.out.below hb13) (RB.out.below B13.out) (by omega))
  rw [decide_eq_true rfl] at S2
  clear S1
  go_wp2_with fail
  refine S2.out.mono ?_
  rintro e w14 ⟨rfl, hb14⟩
  have D14 := Asd.mk (hb13.trans (hb14.mono hb13.size))
  have B14 := Asd.mk (B12.out.trans (D14.out.mono B12.out.size))
  have S3 := Asd.mk (SameTexts_calls (Z12.out.below D14.out) (RD.out.below B14.out) (by omega))
  rw [decide_eq_true rfl] at S3
  clear S2 hb13 hb14
  go_wp2_with fail
  refine S3.out.mono ?_
  rintro e w15 ⟨rfl, q15, hq15⟩
  have hb15 : Below w14.heap.size w14 w15 := hq15 ▸ below_dn _ _
  have B15 := Asd.mk (B14.out.trans (hb15.mono B14.out.size))
  clear hq15 hb15 S3
  go_wp2_with fail
  refine (works_calls _).mono ?_
  rintro e w16 ⟨rfl, hb16⟩
  have B16 := Asd.mk (B15.out.trans (hb16.mono B15.out.size))
  clear hb16
  go_wp2_with fail
  go_ret
  exact ⟨rfl, B16.out⟩
end Go.Proofs.Ytgiajfgeplekbaa

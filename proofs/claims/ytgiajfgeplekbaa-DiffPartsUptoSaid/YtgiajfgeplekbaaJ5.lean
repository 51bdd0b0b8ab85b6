/- DiffParts, the walk, where texts are small. -/
import Derived.Test.YtgiajfgeplekbaaJ2
import Derived.Test.YtgiajfgeplekbaaJ4
import Derived.Test.YtgiajfgeplekbaaH5
import Derived.Test.YtgiajfgeplekbaaR2
set_option linter.unusedVariables false
set_option linter.unusedSimpArgs false
namespace Go.Proofs.Ytgiajfgeplekbaa
open Go.RowKit

theorem digsR_len (l : List Rw) (ps : List SpanR) : (digsR l ps).length ≤ ps.length := by
  unfold digsR digsP
  split <;> simp
theorem partsR_len (l : List Rw) (most : Int) : (partsR l most).length ≤ l.length + 1 := by
  unfold partsR
  split
  · rw [partsL_len]
    have : partsN l most.toNat ≤ l.length - 1 := Nat.div_le_self _ _
    omega
  · simp

set_option maxHeartbeats 16000000 in
set_option maxRecDepth 100000 in
theorem Parts_walk {w : World} {A P : Option Addr} {n c m d : Nat} {a : List Rw} {ps : List SpanR} (ha : Rd w.heap.size 29 w 3 A n c (rowCells a)) (most : Int) (hmost : most ≤ 9223372036854775807) (hp : Rd w.heap.size 39 w 2 P m d (sCells ps)) (hs : ∀ r ∈ a, r.key.size ≤ 1048576 ∧ r.val.size ≤ 1048576) :
    Calls Try.prog 6 #[.slice A n c, .int .i64 most, .slice P m d] w fun e w' => e = .returned (.bool true) ∧ Below w.heap.size w w' := by
  have RA := Asd.mk ha
  have RP := Asd.mk hp
  have SZ := Asd.mk hs
  have SY : Asd (∀ r ∈ a, r.key.size ≤ 9223372036854775807 ∧ r.val.size ≤ 9223372036854775807) := ⟨fun r hr => by have := hs r hr; omega⟩
  clear ha hp hs
  by_cases hn : (300 : Int) < (n : Int)
  · go_enter Try.func6, Try.ntmps6
    go_wp2_with fail
    refine (works_calls _).mono ?_
    rintro e w1 ⟨rfl, hb1⟩
    go_wp2_with fail
    go_ret
    exact ⟨rfl, hb1⟩
  by_cases hm : (300 : Int) < (m : Int)
  · go_enter Try.func6, Try.ntmps6
    go_wp2_with fail
    refine (works_calls _).mono ?_
    rintro e w1 ⟨rfl, hb1⟩
    go_wp2_with fail
    go_ret
    exact ⟨rfl, hb1⟩
  go_enter Try.func6, Try.ntmps6
  go_wp2_with (first
    | (at_builtin; refine wpList_append_full (base := w.heap.size) (n := 0) (c := 0) (m := n) (xs := []) (ys := rowCells a) rfl (.tmp 26) (.tmp 27) 22 rfl elt_row rfl rfl (Rd.empty_ _ (fun h => by cases h)) (RA.out.alloc _) (by omega) (row_one _) (by unfold maxLen; omega) (by omega) ?_; intro A1 c1 w1 F1; have B1 := Asd.mk (((Below.refl w.heap.size w).alloc (Nat.le_refl _) (.cells #[] 29)).trans (F1.below.mono (by simp))); have R1 := Asd.mk F1.rd; clear F1)
    | (at_builtin; refine wpList_append_full (base := w.heap.size) (n := 0) (c := 0) (m := m) (xs := []) (ys := sCells ps) rfl (.tmp 29) (.tmp 30) 33 rfl elt_span rfl rfl (Rd.empty_ _ (fun h => by cases h)) ((RP.out.below B1.out).alloc _) (by omega) (span_one _) (by unfold maxLen; omega) (by omega) ?_; intro A2 c2 w2 F2; have B2 := Asd.mk ((B1.out.alloc B1.out.size (.cells #[] 39)).trans (F2.below.mono (by have := B1.out.size; simp; omega))); have R1' := Asd.mk ((R1.out.alloc (.cells #[] 39)).below F2.below); have R2 := Asd.mk F2.rd; clear F2))
  have XX : Asd (Rd w.heap.size 29 w2 3 A1 n c1 (rowCells a)) := ⟨by have h := R1'.out; rw [Nat.zero_add] at h; exact h⟩
  have YY : Asd (Rd w.heap.size 39 w2 2 A2 m c2 (sCells ps)) := ⟨by have h := R2.out; rw [Nat.zero_add] at h; exact h⟩
  clear R1 R1' R2 B1
  refine (Parts_calls XX.out (by omega) B2.out.size most).mono ?_
  rintro e w3 ⟨D, nd, cd, rfl, hb3, hD⟩
  have B3 := Asd.mk (B2.out.trans (hb3.mono B2.out.size))
  have X3 := Asd.mk (XX.out.below hb3)
  have Y3 := Asd.mk (YY.out.below hb3)
  have D3 := Asd.mk (Rd.own_ (base := w.heap.size) hD)
  clear hb3 hD XX YY
  go_wp2_with fail
  refine (RefParts_calls (RA.out.below B3.out) (by omega) most hmost).mono ?_
  rintro e w4 ⟨E, ne, ce, rfl, hb4, hE⟩
  have B4 := Asd.mk (B3.out.trans (hb4.mono B3.out.size))
  have X4 := Asd.mk (X3.out.below hb4)
  have Y4 := Asd.mk (Y3.out.below hb4)
  have D4 := Asd.mk (D3.out.below hb4)
  have E4 := Asd.mk (Rd.own_ (base := w.heap.size) hE)
  clear hb4 hE X3 Y3 D3 B3
  go_wp2_with fail
  refine (Digests_calls X4.out Y4.out (by omega) (by omega) B4.out.size).mono ?_
  rintro e w5 ⟨F, nf, cf, rfl, hb5, hF⟩
  have B5 := Asd.mk (B4.out.trans (hb5.mono B4.out.size))
  have X5 := Asd.mk (X4.out.below hb5)
  have Y5 := Asd.mk (Y4.out.below hb5)
  have D5 := Asd.mk (D4.out.below hb5)
  have E5 := Asd.mk (E4.out.below hb5)
  have F5 := Asd.mk (Rd.own_ (base := w.heap.size) hF)
  clear hb5 hF X4 Y4 D4 E4 B4
  go_wp2_with fail
  refine (RefDigests_calls (RA.out.below B5.out) (RP.out.below B5.out) (by omega) (by omega)).mono ?_
  rintro e w6 ⟨G, ng, cg, rfl, hb6, hG⟩
  have B6 := Asd.mk (B5.out.trans (hb6.mono B5.out.size))
  have X6 := Asd.mk (X5.out.below hb6)
  have Y6 := Asd.mk (Y5.out.below hb6)
  have D6 := Asd.mk (D5.out.below hb6)
  have E6 := Asd.mk (E5.out.below hb6)
  have F6 := Asd.mk (F5.out.below hb6)
  have G6 := Asd.mk (Rd.own_ (base := w.heap.size) hG)
  clear hb6 hG X5 Y5 D5 E5 F5 B5
  have hnd : nd ≤ 140737488355328 := by
    have h1 := D6.out.count (enc := SpanR.enc) (fun _ => rfl) (by omega)
    have h2 := partsR_len a most
    have h3 := RA.out.count (enc := Rw.enc) (fun _ => rfl) (by omega)
    omega
  have hnf : nf ≤ 140737488355328 := by
    have h1 := F6.out.count (enc := uEnc) (fun _ => rfl) (by omega)
    have h2 := digsR_len a ps
    have h3 := RP.out.count (enc := SpanR.enc) (fun _ => rfl) (by omega)
    omega
  have NDB := Asd.mk hnd
  have NFB := Asd.mk hnf
  clear hnd hnf
  generalize partsR a most = pr at *
  generalize digsR a ps = dr at *
  generalize perrP a most = er at *
  generalize wrongP a = wa at *
  go_wp2_with fail
  refine (Digest_calls X6.out (by omega) SY.out).mono ?_
  rintro e w7 ⟨rfl, hb7⟩
  have D7 := Asd.mk hb7
  clear hb7
  go_wp2_with fail
  refine (RefDigest_calls (RA.out.below (B6.out.trans (D7.out.mono B6.out.size))) (by omega) SZ.out).mono ?_
  rintro e w8 ⟨rfl, hb8⟩
  have D8 := Asd.mk (D7.out.trans (hb8.mono D7.out.size))
  have S1 := Asd.mk (SameSpans_calls (D6.out.below D8.out) (E6.out.below D8.out) NDB.out)
  rw [decide_eq_true rfl] at S1
  clear hb8 D7
  generalize digP a = da at *
  go_wp2_with fail
  refine S1.out.mono ?_
  rintro e w9 ⟨rfl, q9, hq9⟩
  have D9 := Asd.mk (D8.out.trans ((hq9 ▸ below_dn w8 q9 : Below w8.heap.size w8 w9).mono D8.out.size))
  have S2 := Asd.mk (SameSums_calls (F6.out.below D9.out) (G6.out.below D9.out) NFB.out)
  rw [decide_eq_true rfl] at S2
  clear S1 hq9 D8
  go_wp2_with fail
  refine S2.out.mono ?_
  rintro e w10 ⟨rfl, q10, hq10⟩
  have D10 := Asd.mk (D9.out.trans ((hq10 ▸ below_dn w9 q10 : Below w9.heap.size w9 w10).mono D9.out.size))
  have S3 := Asd.mk (SameRows_calls (X6.out.below D10.out) (RA.out.below (B6.out.trans (D10.out.mono B6.out.size))) (by omega))
  rw [decide_eq_true rfl] at S3
  clear S2 hq10 D9
  go_wp2_with fail
  refine S3.out.mono ?_
  rintro e w11 ⟨rfl, hb11⟩
  have D11 := Asd.mk (D10.out.trans (hb11.mono D10.out.size))
  have S4 := Asd.mk (SameSpans_calls (Y6.out.below D11.out) (RP.out.below (B6.out.trans (D11.out.mono B6.out.size))) (by omega))
  rw [decide_eq_true rfl] at S4
  clear S3 hb11 D10
  go_wp2_with fail
  refine S4.out.mono ?_
  rintro e w12 ⟨rfl, q12, hq12⟩
  have D12 := Asd.mk (D11.out.trans ((hq12 ▸ below_dn w11 q12 : Below w11.heap.size w11 w12).mono D11.out.size))
  clear S4 hq12 D11
  go_wp2_with fail
  refine (works_calls _).mono ?_
  rintro e w13 ⟨rfl, hb13⟩
  have B13 := Asd.mk (B6.out.trans ((D12.out.trans (hb13.mono D12.out.size)).mono B6.out.size))
  clear hb13
  go_wp2_with fail
  go_ret
  exact ⟨rfl, B13.out⟩
end Go.Proofs.Ytgiajfgeplekbaa

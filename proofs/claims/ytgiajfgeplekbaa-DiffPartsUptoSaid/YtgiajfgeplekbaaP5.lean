/- DiffBack, the walk. -/
import Derived.Test.YtgiajfgeplekbaaP4
set_option linter.unusedVariables false
set_option linter.unusedSimpArgs false
namespace Go.Proofs.Ytgiajfgeplekbaa
open Go.RowKit
theorem errP_zero {a b : List Rw} (ha : wrongP a = 0) (hb : wrongP b = 0) : errP a b = 0 := by
  unfold errP
  rw [if_pos ha]; exact hb
theorem errP_parts {a b : List Rw} (h : errP a b = 0) : wrongP a = 0 ∧ wrongP b = 0 := by
  unfold errP at h
  split at h
  · exact ⟨by assumption, h⟩
  · contradiction

set_option maxHeartbeats 16000000 in
set_option maxRecDepth 100000 in
theorem Back_walk {w : World} {A B : Option Addr} {n c m d : Nat} {a b : List Rw} (ha : Rd w.heap.size 29 w 3 A n c (rowCells a)) (hb : Rd w.heap.size 29 w 3 B m d (rowCells b)) :
    Calls Try.prog 8 #[.slice A n c, .slice B m d] w fun e w' => e = .returned (.bool true) ∧ Below w.heap.size w w' := by
  have hcn := ha.count (enc := Rw.enc) (fun _ => rfl) (by omega)
  have hcm := hb.count (enc := Rw.enc) (fun _ => rfl) (by omega)
  have RA := Asd.mk ha
  have RB := Asd.mk hb
  have NA := Asd.mk hcn
  have NB := Asd.mk hcm
  clear ha hb hcn hcm
  go_enter Try.func8, Try.ntmps8
  go_wp2_with fail
  refine (works_calls _).mono ?_
  rintro e w1 ⟨rfl, hb1⟩
  have B1 := Asd.mk hb1
  clear hb1
  by_cases hn : (300 : Int) < (n : Int)
  · go_wp2_with fail
    go_ret
    exact ⟨rfl, B1.out⟩
  by_cases hm : (300 : Int) < (m : Int)
  · go_wp2_with fail
    go_ret
    exact ⟨rfl, B1.out⟩
  go_wp2_with fail
  refine (Diff_calls (RA.out.below B1.out) (RB.out.below B1.out) (by omega) (by omega) B1.out.size).mono ?_
  rintro e w2 ⟨P, D, np, cp, nd, cd, rfl, hb2, hP, hD⟩
  have B2 := Asd.mk (B1.out.trans (hb2.mono B1.out.size))
  have hnp := own_len hP
  have hnd := own_tlen hD
  obtain ⟨P', cp', e1, hRP⟩ := Rd.of_own (base := w.heap.size) hP
  cases e1
  obtain ⟨D', cd', e2, hRD⟩ := Rd.of_own (base := w.heap.size) hD
  cases e2
  have XP := Asd.mk hRP
  have XD := Asd.mk hRD
  clear hb2 hP hD hRP hRD
  by_cases he : errP a b = 0
  · obtain ⟨hwa, hwb⟩ := errP_parts he
    have SA := Asd.mk (wrongP_sorted hwa)
    have SB := Asd.mk (wrongP_sorted hwb)
    have EP := Asd.mk (errP_zero hwa (putP_wrong hwb (a := a)))
    have EB := Asd.mk (errP_zero hwb hwb)
    have hp1 : putR a b = putP a b := by unfold putR; rw [if_pos he]
    have hg1 : goneR a b = goneP a b := by unfold goneR; rw [if_pos he]
    rw [hp1] at XP hnp
    rw [hg1] at XD hnd
    rw [he]
    have hlp := putP_len a b
    have hlg := goneP_len a b
    have hnp2 : np ≤ m := by have := NB.out; omega
    have hnd2 : nd ≤ n := by have := NA.out; omega
    clear hp1 hg1 he hwa hwb hlp hlg hnp hnd
    go_wp2_with fail
    refine (Patch_calls (RA.out.below B2.out) XP.out XD.out (by omega) (by omega) (by omega) B2.out.size).mono ?_
    rintro e w3 ⟨Q, nq, cq, l, err, rfl, hb3, hQ, hr⟩
    have hok : err = 0 ∧ Patched a (putP a b) (goneP a b) l := by
      rcases hr with ⟨h1, _⟩ | ⟨_, h1⟩
      · exact absurd EP.out h1
      · rcases h1 with ⟨h1, _⟩ | ⟨_, h2, h3⟩
        · exact absurd (diff_ok SA.out) h1
        · exact ⟨h2, h3⟩
    obtain ⟨rfl, hpt⟩ := hok
    obtain rfl := patch_back SA.out SB.out hpt
    have B3 := Asd.mk (B2.out.trans (hb3.mono B2.out.size))
    have hnq := own_len hQ
    have hnq2 : nq ≤ 300 := by have := NB.out; omega
    obtain ⟨Q', cq', e3, hRQ⟩ := Rd.of_own (base := w.heap.size) hQ
    cases e3
    have XQ := Asd.mk hRQ
    clear hr hpt hb3 hQ hRQ hnq XP XD
    go_wp2_with fail
    refine (Diff_calls (RB.out.below B3.out) XQ.out (by omega) (by omega) B3.out.size).mono ?_
    rintro e w4 ⟨P4, D4, np4, cp4, nd4, cd4, rfl, hb4, hP4, hD4⟩
    have B4 := Asd.mk (B3.out.trans (hb4.mono B3.out.size))
    have XQ4 := Asd.mk (XQ.out.below hb4)
    have hn4 : np4 = 0 := by
      have h1 := own_len hP4
      unfold putR at h1
      rw [if_pos EB.out, putP_self SB.out] at h1
      exact h1
    have hd4 : nd4 = 0 := by
      have h1 := own_tlen hD4
      unfold goneR at h1
      rw [if_pos EB.out, goneP_self] at h1
      exact h1
    subst hn4 hd4
    rw [EB.out]
    have SS := Asd.mk (SameRows_calls XQ4.out (RB.out.below B4.out) (by omega))
    rw [decide_eq_true rfl] at SS
    clear hb4 hP4 hD4 XQ
    have hnp3 : (np : Int) ≤ (m : Int) := by omega
    have hnd3 : (nd : Int) ≤ (n : Int) := by omega
    go_wp2_with fail
    refine SS.out.mono ?_
    rintro e w5 ⟨rfl, hb5⟩
    have B5 := Asd.mk (B4.out.trans (hb5.mono B4.out.size))
    clear hb5 SS
    go_wp2_with fail
    go_ret
    exact ⟨rfl, B5.out⟩
  · have hp0 : np = 0 := by
      unfold putR at hnp
      rw [if_neg he] at hnp
      exact hnp
    have hd0 : nd = 0 := by
      unfold goneR at hnd
      rw [if_neg he] at hnd
      exact hnd
    subst hp0 hd0
    have he1 : (errP a b == 0) = false := by simpa using he
    have he2 : (errP a b != 0) = true := by simpa using he
    clear he hnp hnd XP XD
    generalize errP a b = E at *
    go_wp2_with fail
    go_ret
    exact ⟨rfl, B2.out⟩
end Go.Proofs.Ytgiajfgeplekbaa

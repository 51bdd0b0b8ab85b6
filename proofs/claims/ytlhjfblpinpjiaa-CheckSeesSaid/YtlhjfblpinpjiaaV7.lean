/- The document's words on rows and operations. -/
import Derived.Test.YtlhjfblpinpjiaaV6
set_option linter.unusedVariables false
set_option linter.unusedSimpArgs false
namespace Go.Proofs.Ytlhjfblpinpjiaa
open Go.RowKit

theorem refKey_calls (k : ByteArray) (w : World) :
    Calls Try.prog 76 #[.string k] w fun e w' => e = .returned (.bool (decide (k.size ≠ 0) && decide ((k.size : Int) ≤ 64))) ∧ w' = w := by
  by_cases hz : k.size = 0
  · have htl : k.toList = [] := by rw [tl_nil]; exact hz
    rw [decide_eq_false (fun h => h hz)]
    clear hz
    go_enter Try.func76, Try.ntmps76
    go_wp2
    go_ret
    exact ⟨rfl, rfl⟩
  · have htl : ¬ k.toList = [] := by rw [tl_nil]; exact hz
    have hte : ¬ k = ByteArray.empty := by rw [emp_iff]; exact htl
    have hie : k.toList.isEmpty = false := by rw [empty_eq]; exact decide_eq_false hz
    rw [decide_eq_true hz]
    clear hz
    by_cases h1 : (k.size : Int) ≤ 64
    · rw [decide_eq_true h1]
      go_enter Try.func76, Try.ntmps76
      go_wp2
      all_goals
        go_ret
        exact ⟨by simp [*], rfl⟩
    · rw [decide_eq_false h1]
      go_enter Try.func76, Try.ntmps76
      go_wp2
      all_goals
        go_ret
        exact ⟨by first | (simp [*]; done) | (simp; omega), rfl⟩


theorem refIn_calls (x lo hi : Int) (w : World) :
    Calls Try.prog 68 #[.int .i64 x, .int .i64 lo, .int .i64 hi] w fun e w' => e = .returned (.bool (decide (lo ≤ x) && decide (x ≤ hi))) ∧ w' = w := by
  by_cases h1 : lo ≤ x
  · rw [decide_eq_true h1]
    go_enter Try.func68, Try.ntmps68
    go_wp2
    all_goals
      go_ret
      exact ⟨by first | rfl | (simp; done) | (simp [*]; done) | (simp; omega), rfl⟩
  · rw [decide_eq_false h1]
    go_enter Try.func68, Try.ntmps68
    go_wp2
    all_goals
      go_ret
      exact ⟨by first | rfl | (simp; done) | (simp [*]; done) | (simp; omega), rfl⟩
theorem keyOk_ref (k : ByteArray) : (decide (k.size ≠ 0) && decide ((k.size : Int) ≤ 64)) = keyOk k := by
  unfold keyOk
  congr 1
  rw [decide_eq_decide]
  omega

theorem RFault_calls (at_ code : Int) (w : World) :
    Calls Try.prog 37 #[.int .i64 at_, .int .i64 code] w fun e w' => e = .returned (.agg #[.int .i64 at_, .int .i64 code]) ∧ Below w.heap.size w w' := by
  go_enter Try.func37, Try.ntmps37
  go_wp2_with fail
  refine bodyPost_ret (v := .agg #[.int .i64 at_, .int .i64 code]) (by simp [results, Try.results37, go_sem]) rfl ?_
  refine ⟨rfl, ?_⟩
  repeat (first | exact Below.refl _ _ | refine Below.setCell ?_ (by simp) _ | refine Below.alloc ?_ (by simp) _)

set_option maxHeartbeats 16000000 in
set_option maxRecDepth 100000 in
theorem RMay_calls (x : OpR) (w : World) :
    Calls Try.prog 69 #[.agg x.enc.toArray] w fun e w' => e = .returned (.bool (opOk x)) ∧ Below w.heap.size w w' := by
  obtain ⟨kind, key, val, stamp, test, most⟩ := x
  generalize hres : opOk ⟨kind, key, val, stamp, test, most⟩ = res
  have R := Asd.mk hres
  clear hres
  unfold OpR.enc
  have KC : Asd (∀ (b : Bool), keyOk key = b → ∀ W, Calls Try.prog 76 #[.string key] W fun e w' => e = .returned (.bool b) ∧ w' = W) := ⟨fun b hb W => by
    have h := refKey_calls key W
    rwa [keyOk_ref, hb] at h⟩
  have IC : Asd (∀ (x lo hi : Int) (b : Bool), (decide (lo ≤ x) && decide (x ≤ hi)) = b → ∀ W, Calls Try.prog 68 #[.int .i64 x, .int .i64 lo, .int .i64 hi] W fun e w' => e = .returned (.bool b) ∧ w' = W) := ⟨fun x lo hi b hb W => by
    have h := refIn_calls x lo hi W
    rwa [hb] at h⟩
  by_cases h1 : kind = 1
  · subst h1
    cases hko : keyOk key with
    | false =>
      have KO := Asd.mk hko
      clear hko
      go_enter Try.func69, Try.ntmps69
      go_wp2_with fail
      refine (KC.out false KO.out _).mono ?_
      rintro e w' ⟨rfl, rfl⟩
      go_wp2_with fail
      all_goals
        go_ret
        refine ⟨?_, by repeat (first | exact Below.refl _ _ | refine Below.alloc ?_ (by simp) _ | refine Below.drew ?_)⟩
        rw [← R.out]
        have q0 := KO.out
        first | (simp [opOk, numOk, *]; done) | (simp [opOk, numOk, *]; intros; omega)
    | true =>
      have KO := Asd.mk hko
      clear hko
      by_cases hv : (val.size : Int) ≤ 8192
      · skip
        cases hSO : (decide (1 ≤ stamp) && decide (stamp ≤ 1099511627776)) with
        | false =>
          have SO := Asd.mk hSO
          clear hSO
          go_enter Try.func69, Try.ntmps69
          go_wp2_with fail
          refine (KC.out true KO.out _).mono ?_
          rintro e w' ⟨rfl, rfl⟩
          go_wp2_with fail
          refine (IC.out _ _ _ false SO.out _).mono ?_
          rintro e w' ⟨rfl, rfl⟩
          go_wp2_with fail
          all_goals
            go_ret
            refine ⟨?_, by repeat (first | exact Below.refl _ _ | refine Below.alloc ?_ (by simp) _ | refine Below.drew ?_)⟩
            rw [← R.out]
            have q0 := KO.out
            have q1 := SO.out
            first | (simp [opOk, numOk, *]; done) | (simp [opOk, numOk, *]; intros; omega)
        | true =>
          have SO := Asd.mk hSO
          clear hSO
          cases hTO : (decide (0 ≤ test) && decide (test ≤ 1099511627776)) with
          | false =>
            have TO := Asd.mk hTO
            clear hTO
            go_enter Try.func69, Try.ntmps69
            go_wp2_with fail
            refine (KC.out true KO.out _).mono ?_
            rintro e w' ⟨rfl, rfl⟩
            go_wp2_with fail
            refine (IC.out _ _ _ true SO.out _).mono ?_
            rintro e w' ⟨rfl, rfl⟩
            go_wp2_with fail
            refine (IC.out _ _ _ false TO.out _).mono ?_
            rintro e w' ⟨rfl, rfl⟩
            go_wp2_with fail
            all_goals
              go_ret
              refine ⟨?_, by repeat (first | exact Below.refl _ _ | refine Below.alloc ?_ (by simp) _ | refine Below.drew ?_)⟩
              rw [← R.out]
              have q0 := KO.out
              have q1 := SO.out
              have q2 := TO.out
              first | (simp [opOk, numOk, *]; done) | (simp [opOk, numOk, *]; intros; omega)
          | true =>
            have TO := Asd.mk hTO
            clear hTO
            by_cases ht : test = 0
            · subst ht
              by_cases hm : most = 0
              · subst hm
                go_enter Try.func69, Try.ntmps69
                go_wp2_with fail
                refine (KC.out true KO.out _).mono ?_
                rintro e w' ⟨rfl, rfl⟩
                go_wp2_with fail
                refine (IC.out _ _ _ true SO.out _).mono ?_
                rintro e w' ⟨rfl, rfl⟩
                go_wp2_with fail
                refine (IC.out _ _ _ true TO.out _).mono ?_
                rintro e w' ⟨rfl, rfl⟩
                go_wp2_with fail
                all_goals
                  go_ret
                  refine ⟨?_, by repeat (first | exact Below.refl _ _ | refine Below.alloc ?_ (by simp) _ | refine Below.drew ?_)⟩
                  rw [← R.out]
                  have q0 := KO.out
                  have q1 := SO.out
                  have q2 := TO.out
                  first | (simp [opOk, numOk, *]; done) | (simp [opOk, numOk, *]; intros; omega)
              · have hmb : (most == 0) = false := by simpa using hm
                have hmc : (most != 0) = true := by simpa using hm
                go_enter Try.func69, Try.ntmps69
                go_wp2_with fail
                refine (KC.out true KO.out _).mono ?_
                rintro e w' ⟨rfl, rfl⟩
                go_wp2_with fail
                refine (IC.out _ _ _ true SO.out _).mono ?_
                rintro e w' ⟨rfl, rfl⟩
                go_wp2_with fail
                refine (IC.out _ _ _ true TO.out _).mono ?_
                rintro e w' ⟨rfl, rfl⟩
                go_wp2_with fail
                all_goals
                  go_ret
                  refine ⟨?_, by repeat (first | exact Below.refl _ _ | refine Below.alloc ?_ (by simp) _ | refine Below.drew ?_)⟩
                  rw [← R.out]
                  have q0 := KO.out
                  have q1 := SO.out
                  have q2 := TO.out
                  first | (simp [opOk, numOk, *]; done) | (simp [opOk, numOk, *]; intros; omega)
            · have htb : (test == 0) = false := by simpa using ht
              have htc : (test != 0) = true := by simpa using ht
              go_enter Try.func69, Try.ntmps69
              go_wp2_with fail
              refine (KC.out true KO.out _).mono ?_
              rintro e w' ⟨rfl, rfl⟩
              go_wp2_with fail
              refine (IC.out _ _ _ true SO.out _).mono ?_
              rintro e w' ⟨rfl, rfl⟩
              go_wp2_with fail
              refine (IC.out _ _ _ true TO.out _).mono ?_
              rintro e w' ⟨rfl, rfl⟩
              go_wp2_with fail
              all_goals
                go_ret
                refine ⟨?_, by repeat (first | exact Below.refl _ _ | refine Below.alloc ?_ (by simp) _ | refine Below.drew ?_)⟩
                rw [← R.out]
                have q0 := KO.out
                have q1 := SO.out
                have q2 := TO.out
                first | (simp [opOk, numOk, *]; done) | (simp [opOk, numOk, *]; intros; omega)
      · skip
        go_enter Try.func69, Try.ntmps69
        go_wp2_with fail
        refine (KC.out true KO.out _).mono ?_
        rintro e w' ⟨rfl, rfl⟩
        go_wp2_with fail
        all_goals
          go_ret
          refine ⟨?_, by repeat (first | exact Below.refl _ _ | refine Below.alloc ?_ (by simp) _ | refine Below.drew ?_)⟩
          rw [← R.out]
          have q0 := KO.out
          first | (simp [opOk, numOk, *]; done) | (simp [opOk, numOk, *]; intros; omega)
  by_cases h2 : kind = 2
  · subst h2
    cases hko : keyOk key with
    | false =>
      have KO := Asd.mk hko
      clear hko
      go_enter Try.func69, Try.ntmps69
      go_wp2_with fail
      refine (KC.out false KO.out _).mono ?_
      rintro e w' ⟨rfl, rfl⟩
      go_wp2_with fail
      all_goals
        go_ret
        refine ⟨?_, by repeat (first | exact Below.refl _ _ | refine Below.alloc ?_ (by simp) _ | refine Below.drew ?_)⟩
        rw [← R.out]
        have q0 := KO.out
        first | (simp [opOk, numOk, *]; done) | (simp [opOk, numOk, *]; intros; omega)
    | true =>
      have KO := Asd.mk hko
      clear hko
      by_cases hv : (val.size : Int) ≤ 8192
      · skip
        cases hSO : (decide (1 ≤ stamp) && decide (stamp ≤ 1099511627776)) with
        | false =>
          have SO := Asd.mk hSO
          clear hSO
          go_enter Try.func69, Try.ntmps69
          go_wp2_with fail
          refine (KC.out true KO.out _).mono ?_
          rintro e w' ⟨rfl, rfl⟩
          go_wp2_with fail
          refine (IC.out _ _ _ false SO.out _).mono ?_
          rintro e w' ⟨rfl, rfl⟩
          go_wp2_with fail
          all_goals
            go_ret
            refine ⟨?_, by repeat (first | exact Below.refl _ _ | refine Below.alloc ?_ (by simp) _ | refine Below.drew ?_)⟩
            rw [← R.out]
            have q0 := KO.out
            have q1 := SO.out
            first | (simp [opOk, numOk, *]; done) | (simp [opOk, numOk, *]; intros; omega)
        | true =>
          have SO := Asd.mk hSO
          clear hSO
          cases hTO : (decide (0 ≤ test) && decide (test ≤ 1099511627776)) with
          | false =>
            have TO := Asd.mk hTO
            clear hTO
            go_enter Try.func69, Try.ntmps69
            go_wp2_with fail
            refine (KC.out true KO.out _).mono ?_
            rintro e w' ⟨rfl, rfl⟩
            go_wp2_with fail
            refine (IC.out _ _ _ true SO.out _).mono ?_
            rintro e w' ⟨rfl, rfl⟩
            go_wp2_with fail
            refine (IC.out _ _ _ false TO.out _).mono ?_
            rintro e w' ⟨rfl, rfl⟩
            go_wp2_with fail
            all_goals
              go_ret
              refine ⟨?_, by repeat (first | exact Below.refl _ _ | refine Below.alloc ?_ (by simp) _ | refine Below.drew ?_)⟩
              rw [← R.out]
              have q0 := KO.out
              have q1 := SO.out
              have q2 := TO.out
              first | (simp [opOk, numOk, *]; done) | (simp [opOk, numOk, *]; intros; omega)
          | true =>
            have TO := Asd.mk hTO
            clear hTO
            by_cases hm : most = 0
            · subst hm
              go_enter Try.func69, Try.ntmps69
              go_wp2_with fail
              refine (KC.out true KO.out _).mono ?_
              rintro e w' ⟨rfl, rfl⟩
              go_wp2_with fail
              refine (IC.out _ _ _ true SO.out _).mono ?_
              rintro e w' ⟨rfl, rfl⟩
              go_wp2_with fail
              refine (IC.out _ _ _ true TO.out _).mono ?_
              rintro e w' ⟨rfl, rfl⟩
              go_wp2_with fail
              all_goals
                go_ret
                refine ⟨?_, by repeat (first | exact Below.refl _ _ | refine Below.alloc ?_ (by simp) _ | refine Below.drew ?_)⟩
                rw [← R.out]
                have q0 := KO.out
                have q1 := SO.out
                have q2 := TO.out
                first | (simp [opOk, numOk, *]; done) | (simp [opOk, numOk, *]; intros; omega)
            · have hmb : (most == 0) = false := by simpa using hm
              have hmc : (most != 0) = true := by simpa using hm
              go_enter Try.func69, Try.ntmps69
              go_wp2_with fail
              refine (KC.out true KO.out _).mono ?_
              rintro e w' ⟨rfl, rfl⟩
              go_wp2_with fail
              refine (IC.out _ _ _ true SO.out _).mono ?_
              rintro e w' ⟨rfl, rfl⟩
              go_wp2_with fail
              refine (IC.out _ _ _ true TO.out _).mono ?_
              rintro e w' ⟨rfl, rfl⟩
              go_wp2_with fail
              all_goals
                go_ret
                refine ⟨?_, by repeat (first | exact Below.refl _ _ | refine Below.alloc ?_ (by simp) _ | refine Below.drew ?_)⟩
                rw [← R.out]
                have q0 := KO.out
                have q1 := SO.out
                have q2 := TO.out
                first | (simp [opOk, numOk, *]; done) | (simp [opOk, numOk, *]; intros; omega)
      · skip
        go_enter Try.func69, Try.ntmps69
        go_wp2_with fail
        refine (KC.out true KO.out _).mono ?_
        rintro e w' ⟨rfl, rfl⟩
        go_wp2_with fail
        all_goals
          go_ret
          refine ⟨?_, by repeat (first | exact Below.refl _ _ | refine Below.alloc ?_ (by simp) _ | refine Below.drew ?_)⟩
          rw [← R.out]
          have q0 := KO.out
          first | (simp [opOk, numOk, *]; done) | (simp [opOk, numOk, *]; intros; omega)
  by_cases h3 : kind = 3
  · subst h3
    cases hko : keyOk key with
    | false =>
      have KO := Asd.mk hko
      clear hko
      go_enter Try.func69, Try.ntmps69
      go_wp2_with fail
      refine (KC.out false KO.out _).mono ?_
      rintro e w' ⟨rfl, rfl⟩
      go_wp2_with fail
      all_goals
        go_ret
        refine ⟨?_, by repeat (first | exact Below.refl _ _ | refine Below.alloc ?_ (by simp) _ | refine Below.drew ?_)⟩
        rw [← R.out]
        have q0 := KO.out
        first | (simp [opOk, numOk, *]; done) | (simp [opOk, numOk, *]; intros; omega)
    | true =>
      have KO := Asd.mk hko
      clear hko
      by_cases hv : (val.size : Int) ≤ 8192
      · skip
        cases hSO : (decide (1 ≤ stamp) && decide (stamp ≤ 1099511627776)) with
        | false =>
          have SO := Asd.mk hSO
          clear hSO
          go_enter Try.func69, Try.ntmps69
          go_wp2_with fail
          refine (KC.out true KO.out _).mono ?_
          rintro e w' ⟨rfl, rfl⟩
          go_wp2_with fail
          refine (IC.out _ _ _ false SO.out _).mono ?_
          rintro e w' ⟨rfl, rfl⟩
          go_wp2_with fail
          all_goals
            go_ret
            refine ⟨?_, by repeat (first | exact Below.refl _ _ | refine Below.alloc ?_ (by simp) _ | refine Below.drew ?_)⟩
            rw [← R.out]
            have q0 := KO.out
            have q1 := SO.out
            first | (simp [opOk, numOk, *]; done) | (simp [opOk, numOk, *]; intros; omega)
        | true =>
          have SO := Asd.mk hSO
          clear hSO
          cases hTO : (decide (0 ≤ test) && decide (test ≤ 1099511627776)) with
          | false =>
            have TO := Asd.mk hTO
            clear hTO
            go_enter Try.func69, Try.ntmps69
            go_wp2_with fail
            refine (KC.out true KO.out _).mono ?_
            rintro e w' ⟨rfl, rfl⟩
            go_wp2_with fail
            refine (IC.out _ _ _ true SO.out _).mono ?_
            rintro e w' ⟨rfl, rfl⟩
            go_wp2_with fail
            refine (IC.out _ _ _ false TO.out _).mono ?_
            rintro e w' ⟨rfl, rfl⟩
            go_wp2_with fail
            all_goals
              go_ret
              refine ⟨?_, by repeat (first | exact Below.refl _ _ | refine Below.alloc ?_ (by simp) _ | refine Below.drew ?_)⟩
              rw [← R.out]
              have q0 := KO.out
              have q1 := SO.out
              have q2 := TO.out
              first | (simp [opOk, numOk, *]; done) | (simp [opOk, numOk, *]; intros; omega)
          | true =>
            have TO := Asd.mk hTO
            clear hTO
            by_cases hm : most = 0
            · subst hm
              go_enter Try.func69, Try.ntmps69
              go_wp2_with fail
              refine (KC.out true KO.out _).mono ?_
              rintro e w' ⟨rfl, rfl⟩
              go_wp2_with fail
              refine (IC.out _ _ _ true SO.out _).mono ?_
              rintro e w' ⟨rfl, rfl⟩
              go_wp2_with fail
              refine (IC.out _ _ _ true TO.out _).mono ?_
              rintro e w' ⟨rfl, rfl⟩
              go_wp2_with fail
              all_goals
                go_ret
                refine ⟨?_, by repeat (first | exact Below.refl _ _ | refine Below.alloc ?_ (by simp) _ | refine Below.drew ?_)⟩
                rw [← R.out]
                have q0 := KO.out
                have q1 := SO.out
                have q2 := TO.out
                first | (simp [opOk, numOk, *]; done) | (simp [opOk, numOk, *]; intros; omega)
            · have hmb : (most == 0) = false := by simpa using hm
              have hmc : (most != 0) = true := by simpa using hm
              go_enter Try.func69, Try.ntmps69
              go_wp2_with fail
              refine (KC.out true KO.out _).mono ?_
              rintro e w' ⟨rfl, rfl⟩
              go_wp2_with fail
              refine (IC.out _ _ _ true SO.out _).mono ?_
              rintro e w' ⟨rfl, rfl⟩
              go_wp2_with fail
              refine (IC.out _ _ _ true TO.out _).mono ?_
              rintro e w' ⟨rfl, rfl⟩
              go_wp2_with fail
              all_goals
                go_ret
                refine ⟨?_, by repeat (first | exact Below.refl _ _ | refine Below.alloc ?_ (by simp) _ | refine Below.drew ?_)⟩
                rw [← R.out]
                have q0 := KO.out
                have q1 := SO.out
                have q2 := TO.out
                first | (simp [opOk, numOk, *]; done) | (simp [opOk, numOk, *]; intros; omega)
      · skip
        go_enter Try.func69, Try.ntmps69
        go_wp2_with fail
        refine (KC.out true KO.out _).mono ?_
        rintro e w' ⟨rfl, rfl⟩
        go_wp2_with fail
        all_goals
          go_ret
          refine ⟨?_, by repeat (first | exact Below.refl _ _ | refine Below.alloc ?_ (by simp) _ | refine Below.drew ?_)⟩
          rw [← R.out]
          have q0 := KO.out
          first | (simp [opOk, numOk, *]; done) | (simp [opOk, numOk, *]; intros; omega)
  by_cases h4 : kind = 4
  · subst h4
    cases hko : keyOk key with
    | false =>
      have KO := Asd.mk hko
      clear hko
      go_enter Try.func69, Try.ntmps69
      go_wp2_with fail
      refine (KC.out false KO.out _).mono ?_
      rintro e w' ⟨rfl, rfl⟩
      go_wp2_with fail
      all_goals
        go_ret
        refine ⟨?_, by repeat (first | exact Below.refl _ _ | refine Below.alloc ?_ (by simp) _ | refine Below.drew ?_)⟩
        rw [← R.out]
        have q0 := KO.out
        first | (simp [opOk, numOk, *]; done) | (simp [opOk, numOk, *]; intros; omega)
    | true =>
      have KO := Asd.mk hko
      clear hko
      cases hTO : (decide (0 ≤ test) && decide (test ≤ 1099511627776)) with
      | false =>
        have TO := Asd.mk hTO
        clear hTO
        go_enter Try.func69, Try.ntmps69
        go_wp2_with fail
        refine (KC.out true KO.out _).mono ?_
        rintro e w' ⟨rfl, rfl⟩
        go_wp2_with fail
        refine (IC.out _ _ _ false TO.out _).mono ?_
        rintro e w' ⟨rfl, rfl⟩
        go_wp2_with fail
        all_goals
          go_ret
          refine ⟨?_, by repeat (first | exact Below.refl _ _ | refine Below.alloc ?_ (by simp) _ | refine Below.drew ?_)⟩
          rw [← R.out]
          have q0 := KO.out
          have q1 := TO.out
          first | (simp [opOk, numOk, *]; done) | (simp [opOk, numOk, *]; intros; omega)
      | true =>
        have TO := Asd.mk hTO
        clear hTO
        by_cases hz : val.size = 0
        · have htl : val.toList = [] := by rw [tl_nil]; exact hz
          have hie : val.toList.isEmpty = true := by rw [empty_eq]; exact decide_eq_true hz
          by_cases hs : stamp = 0
          · subst hs
            by_cases hm : most = 0
            · subst hm
              go_enter Try.func69, Try.ntmps69
              go_wp2_with fail
              refine (KC.out true KO.out _).mono ?_
              rintro e w' ⟨rfl, rfl⟩
              go_wp2_with fail
              refine (IC.out _ _ _ true TO.out _).mono ?_
              rintro e w' ⟨rfl, rfl⟩
              go_wp2_with fail
              all_goals
                go_ret
                refine ⟨?_, by repeat (first | exact Below.refl _ _ | refine Below.alloc ?_ (by simp) _ | refine Below.drew ?_)⟩
                rw [← R.out]
                have q0 := KO.out
                have q1 := TO.out
                first | (simp [opOk, numOk, *]; done) | (simp [opOk, numOk, *]; intros; omega)
            · have hmb : (most == 0) = false := by simpa using hm
              have hmc : (most != 0) = true := by simpa using hm
              go_enter Try.func69, Try.ntmps69
              go_wp2_with fail
              refine (KC.out true KO.out _).mono ?_
              rintro e w' ⟨rfl, rfl⟩
              go_wp2_with fail
              refine (IC.out _ _ _ true TO.out _).mono ?_
              rintro e w' ⟨rfl, rfl⟩
              go_wp2_with fail
              all_goals
                go_ret
                refine ⟨?_, by repeat (first | exact Below.refl _ _ | refine Below.alloc ?_ (by simp) _ | refine Below.drew ?_)⟩
                rw [← R.out]
                have q0 := KO.out
                have q1 := TO.out
                first | (simp [opOk, numOk, *]; done) | (simp [opOk, numOk, *]; intros; omega)
          · have hsb : (stamp == 0) = false := by simpa using hs
            have hsc : (stamp != 0) = true := by simpa using hs
            go_enter Try.func69, Try.ntmps69
            go_wp2_with fail
            refine (KC.out true KO.out _).mono ?_
            rintro e w' ⟨rfl, rfl⟩
            go_wp2_with fail
            refine (IC.out _ _ _ true TO.out _).mono ?_
            rintro e w' ⟨rfl, rfl⟩
            go_wp2_with fail
            all_goals
              go_ret
              refine ⟨?_, by repeat (first | exact Below.refl _ _ | refine Below.alloc ?_ (by simp) _ | refine Below.drew ?_)⟩
              rw [← R.out]
              have q0 := KO.out
              have q1 := TO.out
              first | (simp [opOk, numOk, *]; done) | (simp [opOk, numOk, *]; intros; omega)
        · have htl : ¬ val.toList = [] := by rw [tl_nil]; exact hz
          have hte : ¬ val = ByteArray.empty := by rw [emp_iff]; exact htl
          have hie : val.toList.isEmpty = false := by rw [empty_eq]; exact decide_eq_false hz
          go_enter Try.func69, Try.ntmps69
          go_wp2_with fail
          refine (KC.out true KO.out _).mono ?_
          rintro e w' ⟨rfl, rfl⟩
          go_wp2_with fail
          refine (IC.out _ _ _ true TO.out _).mono ?_
          rintro e w' ⟨rfl, rfl⟩
          go_wp2_with fail
          all_goals
            go_ret
            refine ⟨?_, by repeat (first | exact Below.refl _ _ | refine Below.alloc ?_ (by simp) _ | refine Below.drew ?_)⟩
            rw [← R.out]
            have q0 := KO.out
            have q1 := TO.out
            first | (simp [opOk, numOk, *]; done) | (simp [opOk, numOk, *]; intros; omega)
  by_cases h5 : kind = 5
  · subst h5
    cases hko : keyOk key with
    | false =>
      have KO := Asd.mk hko
      clear hko
      go_enter Try.func69, Try.ntmps69
      go_wp2_with fail
      refine (KC.out false KO.out _).mono ?_
      rintro e w' ⟨rfl, rfl⟩
      go_wp2_with fail
      all_goals
        go_ret
        refine ⟨?_, by repeat (first | exact Below.refl _ _ | refine Below.alloc ?_ (by simp) _ | refine Below.drew ?_)⟩
        rw [← R.out]
        have q0 := KO.out
        first | (simp [opOk, numOk, *]; done) | (simp [opOk, numOk, *]; intros; omega)
    | true =>
      have KO := Asd.mk hko
      clear hko
      cases hTO : (decide (0 ≤ test) && decide (test ≤ 1099511627776)) with
      | false =>
        have TO := Asd.mk hTO
        clear hTO
        go_enter Try.func69, Try.ntmps69
        go_wp2_with fail
        refine (KC.out true KO.out _).mono ?_
        rintro e w' ⟨rfl, rfl⟩
        go_wp2_with fail
        refine (IC.out _ _ _ false TO.out _).mono ?_
        rintro e w' ⟨rfl, rfl⟩
        go_wp2_with fail
        all_goals
          go_ret
          refine ⟨?_, by repeat (first | exact Below.refl _ _ | refine Below.alloc ?_ (by simp) _ | refine Below.drew ?_)⟩
          rw [← R.out]
          have q0 := KO.out
          have q1 := TO.out
          first | (simp [opOk, numOk, *]; done) | (simp [opOk, numOk, *]; intros; omega)
      | true =>
        have TO := Asd.mk hTO
        clear hTO
        by_cases hz : val.size = 0
        · have htl : val.toList = [] := by rw [tl_nil]; exact hz
          have hie : val.toList.isEmpty = true := by rw [empty_eq]; exact decide_eq_true hz
          by_cases hs : stamp = 0
          · subst hs
            by_cases hm : most = 0
            · subst hm
              go_enter Try.func69, Try.ntmps69
              go_wp2_with fail
              refine (KC.out true KO.out _).mono ?_
              rintro e w' ⟨rfl, rfl⟩
              go_wp2_with fail
              refine (IC.out _ _ _ true TO.out _).mono ?_
              rintro e w' ⟨rfl, rfl⟩
              go_wp2_with fail
              all_goals
                go_ret
                refine ⟨?_, by repeat (first | exact Below.refl _ _ | refine Below.alloc ?_ (by simp) _ | refine Below.drew ?_)⟩
                rw [← R.out]
                have q0 := KO.out
                have q1 := TO.out
                first | (simp [opOk, numOk, *]; done) | (simp [opOk, numOk, *]; intros; omega)
            · have hmb : (most == 0) = false := by simpa using hm
              have hmc : (most != 0) = true := by simpa using hm
              go_enter Try.func69, Try.ntmps69
              go_wp2_with fail
              refine (KC.out true KO.out _).mono ?_
              rintro e w' ⟨rfl, rfl⟩
              go_wp2_with fail
              refine (IC.out _ _ _ true TO.out _).mono ?_
              rintro e w' ⟨rfl, rfl⟩
              go_wp2_with fail
              all_goals
                go_ret
                refine ⟨?_, by repeat (first | exact Below.refl _ _ | refine Below.alloc ?_ (by simp) _ | refine Below.drew ?_)⟩
                rw [← R.out]
                have q0 := KO.out
                have q1 := TO.out
                first | (simp [opOk, numOk, *]; done) | (simp [opOk, numOk, *]; intros; omega)
          · have hsb : (stamp == 0) = false := by simpa using hs
            have hsc : (stamp != 0) = true := by simpa using hs
            go_enter Try.func69, Try.ntmps69
            go_wp2_with fail
            refine (KC.out true KO.out _).mono ?_
            rintro e w' ⟨rfl, rfl⟩
            go_wp2_with fail
            refine (IC.out _ _ _ true TO.out _).mono ?_
            rintro e w' ⟨rfl, rfl⟩
            go_wp2_with fail
            all_goals
              go_ret
              refine ⟨?_, by repeat (first | exact Below.refl _ _ | refine Below.alloc ?_ (by simp) _ | refine Below.drew ?_)⟩
              rw [← R.out]
              have q0 := KO.out
              have q1 := TO.out
              first | (simp [opOk, numOk, *]; done) | (simp [opOk, numOk, *]; intros; omega)
        · have htl : ¬ val.toList = [] := by rw [tl_nil]; exact hz
          have hte : ¬ val = ByteArray.empty := by rw [emp_iff]; exact htl
          have hie : val.toList.isEmpty = false := by rw [empty_eq]; exact decide_eq_false hz
          go_enter Try.func69, Try.ntmps69
          go_wp2_with fail
          refine (KC.out true KO.out _).mono ?_
          rintro e w' ⟨rfl, rfl⟩
          go_wp2_with fail
          refine (IC.out _ _ _ true TO.out _).mono ?_
          rintro e w' ⟨rfl, rfl⟩
          go_wp2_with fail
          all_goals
            go_ret
            refine ⟨?_, by repeat (first | exact Below.refl _ _ | refine Below.alloc ?_ (by simp) _ | refine Below.drew ?_)⟩
            rw [← R.out]
            have q0 := KO.out
            have q1 := TO.out
            first | (simp [opOk, numOk, *]; done) | (simp [opOk, numOk, *]; intros; omega)
  by_cases h6 : kind = 6
  · subst h6
    by_cases hk : (key.size : Int) ≤ 64
    · skip
      cases hMO : (decide (1 ≤ most) && decide (most ≤ 100)) with
      | false =>
        have MO := Asd.mk hMO
        clear hMO
        go_enter Try.func69, Try.ntmps69
        go_wp2_with fail
        refine (IC.out _ _ _ false MO.out _).mono ?_
        rintro e w' ⟨rfl, rfl⟩
        go_wp2_with fail
        all_goals
          go_ret
          refine ⟨?_, by repeat (first | exact Below.refl _ _ | refine Below.alloc ?_ (by simp) _ | refine Below.drew ?_)⟩
          rw [← R.out]
          have q0 := MO.out
          first | (simp [opOk, numOk, *]; done) | (simp [opOk, numOk, *]; intros; omega)
      | true =>
        have MO := Asd.mk hMO
        clear hMO
        by_cases hz : val.size = 0
        · have htl : val.toList = [] := by rw [tl_nil]; exact hz
          have hie : val.toList.isEmpty = true := by rw [empty_eq]; exact decide_eq_true hz
          by_cases hs : stamp = 0
          · subst hs
            by_cases ht : test = 0
            · subst ht
              go_enter Try.func69, Try.ntmps69
              go_wp2_with fail
              refine (IC.out _ _ _ true MO.out _).mono ?_
              rintro e w' ⟨rfl, rfl⟩
              go_wp2_with fail
              all_goals
                go_ret
                refine ⟨?_, by repeat (first | exact Below.refl _ _ | refine Below.alloc ?_ (by simp) _ | refine Below.drew ?_)⟩
                rw [← R.out]
                have q0 := MO.out
                first | (simp [opOk, numOk, *]; done) | (simp [opOk, numOk, *]; intros; omega)
            · have htb : (test == 0) = false := by simpa using ht
              have htc : (test != 0) = true := by simpa using ht
              go_enter Try.func69, Try.ntmps69
              go_wp2_with fail
              refine (IC.out _ _ _ true MO.out _).mono ?_
              rintro e w' ⟨rfl, rfl⟩
              go_wp2_with fail
              all_goals
                go_ret
                refine ⟨?_, by repeat (first | exact Below.refl _ _ | refine Below.alloc ?_ (by simp) _ | refine Below.drew ?_)⟩
                rw [← R.out]
                have q0 := MO.out
                first | (simp [opOk, numOk, *]; done) | (simp [opOk, numOk, *]; intros; omega)
          · have hsb : (stamp == 0) = false := by simpa using hs
            have hsc : (stamp != 0) = true := by simpa using hs
            go_enter Try.func69, Try.ntmps69
            go_wp2_with fail
            refine (IC.out _ _ _ true MO.out _).mono ?_
            rintro e w' ⟨rfl, rfl⟩
            go_wp2_with fail
            all_goals
              go_ret
              refine ⟨?_, by repeat (first | exact Below.refl _ _ | refine Below.alloc ?_ (by simp) _ | refine Below.drew ?_)⟩
              rw [← R.out]
              have q0 := MO.out
              first | (simp [opOk, numOk, *]; done) | (simp [opOk, numOk, *]; intros; omega)
        · have htl : ¬ val.toList = [] := by rw [tl_nil]; exact hz
          have hte : ¬ val = ByteArray.empty := by rw [emp_iff]; exact htl
          have hie : val.toList.isEmpty = false := by rw [empty_eq]; exact decide_eq_false hz
          go_enter Try.func69, Try.ntmps69
          go_wp2_with fail
          refine (IC.out _ _ _ true MO.out _).mono ?_
          rintro e w' ⟨rfl, rfl⟩
          go_wp2_with fail
          all_goals
            go_ret
            refine ⟨?_, by repeat (first | exact Below.refl _ _ | refine Below.alloc ?_ (by simp) _ | refine Below.drew ?_)⟩
            rw [← R.out]
            have q0 := MO.out
            first | (simp [opOk, numOk, *]; done) | (simp [opOk, numOk, *]; intros; omega)
    · skip
      go_enter Try.func69, Try.ntmps69
      go_wp2_with fail
      all_goals
        go_ret
        refine ⟨?_, by repeat (first | exact Below.refl _ _ | refine Below.alloc ?_ (by simp) _ | refine Below.drew ?_)⟩
        rw [← R.out]
        first | (simp [opOk, numOk, *]; done) | (simp [opOk, numOk, *]; intros; omega)
  · have j1 : (kind == 1) = false := by simpa using h1
    have j2 : (kind == 2) = false := by simpa using h2
    have j3 : (kind == 3) = false := by simpa using h3
    have j4 : (kind == 4) = false := by simpa using h4
    have j5 : (kind == 5) = false := by simpa using h5
    have j6 : (kind == 6) = false := by simpa using h6
    go_enter Try.func69, Try.ntmps69
    go_wp2_with fail
    all_goals
      go_ret
      refine ⟨?_, by repeat (first | exact Below.refl _ _ | refine Below.alloc ?_ (by simp) _ | refine Below.drew ?_)⟩
      rw [← R.out]
      first | (simp [opOk, numOk, *]; done) | (simp [opOk, numOk, *]; intros; omega)
end Go.Proofs.Ytlhjfblpinpjiaa

/- Operations: which may be. -/
import Derived.Test.YtlhjfblpinpjiaaProg
import Derived.Test.YtlhjfblpinpjiaaKey
import Derived.WalkKit
set_option linter.unusedVariables false
set_option linter.unusedSimpArgs false
namespace Go.Proofs.Ytlhjfblpinpjiaa
open Go.RowKit

structure OpR where
  kind : Int
  key : ByteArray
  val : ByteArray
  stamp : Int
  test : Int
  most : Int
def OpR.enc (x : OpR) : List Value := [.int .i64 x.kind, .string x.key, .string x.val, .int .i64 x.stamp, .int .i64 x.test, .int .i64 x.most]
instance : Inhabited OpR := ⟨⟨0, ⟨#[]⟩, ⟨#[]⟩, 0, 0, 0⟩⟩

theorem op_in (a b c : Int) (w : World) :
    Calls Try.prog 53 #[.int .i64 a, .int .i64 b, .int .i64 c] w fun e w' => e = .returned (.bool (decide (b ≤ a) && decide (a ≤ c))) ∧ w = w' := by
  by_cases h1 : b ≤ a
  · by_cases h2 : a ≤ c
    · go_enter Try.func53, Try.ntmps53
      go_wp2
      go_ret
      exact ⟨by simp [h1, h2], rfl⟩
    · go_enter Try.func53, Try.ntmps53
      go_wp2
      go_ret
      have h3 : decide (a ≤ c) = false := decide_eq_false (by omega)
      exact ⟨by rw [h3]; simp, rfl⟩
  · go_enter Try.func53, Try.ntmps53
    go_wp2
    go_ret
    have h3 : decide (b ≤ a) = false := decide_eq_false (by omega)
    exact ⟨by rw [h3]; simp, rfl⟩

def keyOk (s : ByteArray) : Bool := decide (1 ≤ (s.size : Int)) && decide ((s.size : Int) ≤ 64)
theorem op_key (s : ByteArray) (hs : s.size ≤ 9223372036854775807) (w : World) :
    Calls Try.prog 59 #[.string s] w fun e w' => e = .returned (.bool (keyOk s)) ∧ w = w' := by
  go_enter Try.func59, Try.ntmps59
  go_wp2_with fail
  refine (op_in _ _ _ _).mono ?_
  rintro e w' ⟨rfl, rfl⟩
  go_wp2_with fail
  go_ret
  exact ⟨rfl, rfl⟩

def numOk (n : Int) (lo : Int) : Bool := decide (lo ≤ n) && decide (n ≤ 1099511627776)
/-- op.Check says that an operation may be. -/
def opOk (x : OpR) : Bool :=
  if x.kind = 1 then keyOk x.key && numOk x.test 0 && decide ((x.val.size : Int) ≤ 8192) && numOk x.stamp 1 && decide (x.test = 0) && decide (x.most = 0)
  else if x.kind = 2 ∨ x.kind = 3 then keyOk x.key && numOk x.test 0 && decide ((x.val.size : Int) ≤ 8192) && numOk x.stamp 1 && decide (x.most = 0)
  else if x.kind = 4 ∨ x.kind = 5 then keyOk x.key && numOk x.test 0 && decide (x.val.size = 0) && decide (x.stamp = 0) && decide (x.most = 0)
  else if x.kind = 6 then decide ((x.key.size : Int) ≤ 64) && (decide (1 ≤ x.most) && decide (x.most ≤ 100)) && decide (x.val.size = 0) && decide (x.stamp = 0) && decide (x.test = 0)
  else false

set_option maxHeartbeats 4000000 in
theorem Check_calls (x : OpR) (hk : x.key.size ≤ 9223372036854775807) (hv : x.val.size ≤ 9223372036854775807) (w : World) :
    Calls Try.prog 41 #[.agg x.enc.toArray] w fun e w' => e = .returned (.int .i64 (if opOk x then 0 else 80)) ∧ Below w.heap.size w w' := by
  obtain ⟨kind, key, val, stamp, test, most⟩ := x
  simp only at hk hv
  generalize hr : (if opOk ⟨kind, key, val, stamp, test, most⟩ then (0 : Int) else 80) = r
  have R := Asd.mk hr
  clear hr
  unfold OpR.enc
  have K1 := fun (b : Bool) (h : keyOk key = b) (W : World) => (op_key key hk W).mono (R' := fun e w' => e = .returned (.bool b) ∧ W = w') fun e w' q => ⟨by rw [q.1, h], q.2⟩
  have I1 := fun (n lo hi : Int) (b : Bool) (h : (decide (lo ≤ n) && decide (n ≤ hi)) = b) (W : World) => (op_in n lo hi W).mono (R' := fun e w' => e = .returned (.bool b) ∧ W = w') fun e w' q => ⟨by rw [q.1, h], q.2⟩
  have K1' := Asd.mk K1
  have I1' := Asd.mk I1
  clear K1 I1
  by_cases h1 : kind = 1
  · subst h1
    cases hko : keyOk key with
    | false =>
      have KO := Asd.mk hko
      clear hko
      go_enter Try.func41, Try.ntmps41
      go_wp2_with fail
      refine (K1'.out false KO.out _).mono ?_
      rintro e w' ⟨rfl, rfl⟩
      go_wp2_with fail
      all_goals
        go_ret
        refine ⟨?_, by repeat (first | exact Below.refl _ _ | refine Below.alloc ?_ (by simp) _ | refine Below.drew ?_)⟩
        rw [← R.out]
        have q0 := KO.out
        simp [opOk, numOk, emp_iff, *]
    | true =>
      have KO := Asd.mk hko
      clear hko
      cases hto : (decide (0 ≤ test) && decide (test ≤ 1099511627776)) with
      | false =>
        have TO := Asd.mk hto
        clear hto
        go_enter Try.func41, Try.ntmps41
        go_wp2_with fail
        refine (K1'.out true KO.out _).mono ?_
        rintro e w' ⟨rfl, rfl⟩
        go_wp2_with fail
        refine (I1'.out _ _ _ false TO.out _).mono ?_
        rintro e w' ⟨rfl, rfl⟩
        go_wp2_with fail
        all_goals
          go_ret
          refine ⟨?_, by repeat (first | exact Below.refl _ _ | refine Below.alloc ?_ (by simp) _ | refine Below.drew ?_)⟩
          rw [← R.out]
          have q0 := KO.out
          have q1 := TO.out
          simp [opOk, numOk, emp_iff, *]
      | true =>
        have TO := Asd.mk hto
        clear hto
        by_cases hvo : (val.size : Int) ≤ 8192
        · cases hso : (decide (1 ≤ stamp) && decide (stamp ≤ 1099511627776)) with
          | false =>
            have SO := Asd.mk hso
            clear hso
            go_enter Try.func41, Try.ntmps41
            go_wp2_with fail
            refine (K1'.out true KO.out _).mono ?_
            rintro e w' ⟨rfl, rfl⟩
            go_wp2_with fail
            refine (I1'.out _ _ _ true TO.out _).mono ?_
            rintro e w' ⟨rfl, rfl⟩
            go_wp2_with fail
            refine (I1'.out _ _ _ false SO.out _).mono ?_
            rintro e w' ⟨rfl, rfl⟩
            go_wp2_with fail
            all_goals
              go_ret
              refine ⟨?_, by repeat (first | exact Below.refl _ _ | refine Below.alloc ?_ (by simp) _ | refine Below.drew ?_)⟩
              rw [← R.out]
              have q0 := KO.out
              have q1 := TO.out
              have q2 := SO.out
              simp [opOk, numOk, emp_iff, *]
          | true =>
            have SO := Asd.mk hso
            clear hso
            go_enter Try.func41, Try.ntmps41
            go_wp2_with fail
            refine (K1'.out true KO.out _).mono ?_
            rintro e w' ⟨rfl, rfl⟩
            go_wp2_with fail
            refine (I1'.out _ _ _ true TO.out _).mono ?_
            rintro e w' ⟨rfl, rfl⟩
            go_wp2_with fail
            refine (I1'.out _ _ _ true SO.out _).mono ?_
            rintro e w' ⟨rfl, rfl⟩
            go_wp2_with fail
            all_goals
              go_ret
              refine ⟨?_, by repeat (first | exact Below.refl _ _ | refine Below.alloc ?_ (by simp) _ | refine Below.drew ?_)⟩
              rw [← R.out]
              have q0 := KO.out
              have q1 := TO.out
              have q2 := SO.out
              simp [opOk, numOk, emp_iff, *]
        · have hvo' : (8192 : Int) < val.size := by omega
          go_enter Try.func41, Try.ntmps41
          go_wp2_with fail
          refine (K1'.out true KO.out _).mono ?_
          rintro e w' ⟨rfl, rfl⟩
          go_wp2_with fail
          refine (I1'.out _ _ _ true TO.out _).mono ?_
          rintro e w' ⟨rfl, rfl⟩
          go_wp2_with fail
          all_goals
            go_ret
            refine ⟨?_, by repeat (first | exact Below.refl _ _ | refine Below.alloc ?_ (by simp) _ | refine Below.drew ?_)⟩
            rw [← R.out]
            have q0 := KO.out
            have q1 := TO.out
            have hv0 : ¬ (val.size : Int) ≤ 8192 := by omega
            simp [opOk, numOk, emp_iff, *]
  by_cases h2 : kind = 2
  · subst h2
    cases hko : keyOk key with
    | false =>
      have KO := Asd.mk hko
      clear hko
      go_enter Try.func41, Try.ntmps41
      go_wp2_with fail
      refine (K1'.out false KO.out _).mono ?_
      rintro e w' ⟨rfl, rfl⟩
      go_wp2_with fail
      all_goals
        go_ret
        refine ⟨?_, by repeat (first | exact Below.refl _ _ | refine Below.alloc ?_ (by simp) _ | refine Below.drew ?_)⟩
        rw [← R.out]
        have q0 := KO.out
        simp [opOk, numOk, emp_iff, *]
    | true =>
      have KO := Asd.mk hko
      clear hko
      cases hto : (decide (0 ≤ test) && decide (test ≤ 1099511627776)) with
      | false =>
        have TO := Asd.mk hto
        clear hto
        go_enter Try.func41, Try.ntmps41
        go_wp2_with fail
        refine (K1'.out true KO.out _).mono ?_
        rintro e w' ⟨rfl, rfl⟩
        go_wp2_with fail
        refine (I1'.out _ _ _ false TO.out _).mono ?_
        rintro e w' ⟨rfl, rfl⟩
        go_wp2_with fail
        all_goals
          go_ret
          refine ⟨?_, by repeat (first | exact Below.refl _ _ | refine Below.alloc ?_ (by simp) _ | refine Below.drew ?_)⟩
          rw [← R.out]
          have q0 := KO.out
          have q1 := TO.out
          simp [opOk, numOk, emp_iff, *]
      | true =>
        have TO := Asd.mk hto
        clear hto
        by_cases hvo : (val.size : Int) ≤ 8192
        · cases hso : (decide (1 ≤ stamp) && decide (stamp ≤ 1099511627776)) with
          | false =>
            have SO := Asd.mk hso
            clear hso
            go_enter Try.func41, Try.ntmps41
            go_wp2_with fail
            refine (K1'.out true KO.out _).mono ?_
            rintro e w' ⟨rfl, rfl⟩
            go_wp2_with fail
            refine (I1'.out _ _ _ true TO.out _).mono ?_
            rintro e w' ⟨rfl, rfl⟩
            go_wp2_with fail
            refine (I1'.out _ _ _ false SO.out _).mono ?_
            rintro e w' ⟨rfl, rfl⟩
            go_wp2_with fail
            all_goals
              go_ret
              refine ⟨?_, by repeat (first | exact Below.refl _ _ | refine Below.alloc ?_ (by simp) _ | refine Below.drew ?_)⟩
              rw [← R.out]
              have q0 := KO.out
              have q1 := TO.out
              have q2 := SO.out
              simp [opOk, numOk, emp_iff, *]
          | true =>
            have SO := Asd.mk hso
            clear hso
            go_enter Try.func41, Try.ntmps41
            go_wp2_with fail
            refine (K1'.out true KO.out _).mono ?_
            rintro e w' ⟨rfl, rfl⟩
            go_wp2_with fail
            refine (I1'.out _ _ _ true TO.out _).mono ?_
            rintro e w' ⟨rfl, rfl⟩
            go_wp2_with fail
            refine (I1'.out _ _ _ true SO.out _).mono ?_
            rintro e w' ⟨rfl, rfl⟩
            go_wp2_with fail
            all_goals
              go_ret
              refine ⟨?_, by repeat (first | exact Below.refl _ _ | refine Below.alloc ?_ (by simp) _ | refine Below.drew ?_)⟩
              rw [← R.out]
              have q0 := KO.out
              have q1 := TO.out
              have q2 := SO.out
              simp [opOk, numOk, emp_iff, *]
        · have hvo' : (8192 : Int) < val.size := by omega
          go_enter Try.func41, Try.ntmps41
          go_wp2_with fail
          refine (K1'.out true KO.out _).mono ?_
          rintro e w' ⟨rfl, rfl⟩
          go_wp2_with fail
          refine (I1'.out _ _ _ true TO.out _).mono ?_
          rintro e w' ⟨rfl, rfl⟩
          go_wp2_with fail
          all_goals
            go_ret
            refine ⟨?_, by repeat (first | exact Below.refl _ _ | refine Below.alloc ?_ (by simp) _ | refine Below.drew ?_)⟩
            rw [← R.out]
            have q0 := KO.out
            have q1 := TO.out
            have hv0 : ¬ (val.size : Int) ≤ 8192 := by omega
            simp [opOk, numOk, emp_iff, *]
  by_cases h3 : kind = 3
  · subst h3
    cases hko : keyOk key with
    | false =>
      have KO := Asd.mk hko
      clear hko
      go_enter Try.func41, Try.ntmps41
      go_wp2_with fail
      refine (K1'.out false KO.out _).mono ?_
      rintro e w' ⟨rfl, rfl⟩
      go_wp2_with fail
      all_goals
        go_ret
        refine ⟨?_, by repeat (first | exact Below.refl _ _ | refine Below.alloc ?_ (by simp) _ | refine Below.drew ?_)⟩
        rw [← R.out]
        have q0 := KO.out
        simp [opOk, numOk, emp_iff, *]
    | true =>
      have KO := Asd.mk hko
      clear hko
      cases hto : (decide (0 ≤ test) && decide (test ≤ 1099511627776)) with
      | false =>
        have TO := Asd.mk hto
        clear hto
        go_enter Try.func41, Try.ntmps41
        go_wp2_with fail
        refine (K1'.out true KO.out _).mono ?_
        rintro e w' ⟨rfl, rfl⟩
        go_wp2_with fail
        refine (I1'.out _ _ _ false TO.out _).mono ?_
        rintro e w' ⟨rfl, rfl⟩
        go_wp2_with fail
        all_goals
          go_ret
          refine ⟨?_, by repeat (first | exact Below.refl _ _ | refine Below.alloc ?_ (by simp) _ | refine Below.drew ?_)⟩
          rw [← R.out]
          have q0 := KO.out
          have q1 := TO.out
          simp [opOk, numOk, emp_iff, *]
      | true =>
        have TO := Asd.mk hto
        clear hto
        by_cases hvo : (val.size : Int) ≤ 8192
        · cases hso : (decide (1 ≤ stamp) && decide (stamp ≤ 1099511627776)) with
          | false =>
            have SO := Asd.mk hso
            clear hso
            go_enter Try.func41, Try.ntmps41
            go_wp2_with fail
            refine (K1'.out true KO.out _).mono ?_
            rintro e w' ⟨rfl, rfl⟩
            go_wp2_with fail
            refine (I1'.out _ _ _ true TO.out _).mono ?_
            rintro e w' ⟨rfl, rfl⟩
            go_wp2_with fail
            refine (I1'.out _ _ _ false SO.out _).mono ?_
            rintro e w' ⟨rfl, rfl⟩
            go_wp2_with fail
            all_goals
              go_ret
              refine ⟨?_, by repeat (first | exact Below.refl _ _ | refine Below.alloc ?_ (by simp) _ | refine Below.drew ?_)⟩
              rw [← R.out]
              have q0 := KO.out
              have q1 := TO.out
              have q2 := SO.out
              simp [opOk, numOk, emp_iff, *]
          | true =>
            have SO := Asd.mk hso
            clear hso
            go_enter Try.func41, Try.ntmps41
            go_wp2_with fail
            refine (K1'.out true KO.out _).mono ?_
            rintro e w' ⟨rfl, rfl⟩
            go_wp2_with fail
            refine (I1'.out _ _ _ true TO.out _).mono ?_
            rintro e w' ⟨rfl, rfl⟩
            go_wp2_with fail
            refine (I1'.out _ _ _ true SO.out _).mono ?_
            rintro e w' ⟨rfl, rfl⟩
            go_wp2_with fail
            all_goals
              go_ret
              refine ⟨?_, by repeat (first | exact Below.refl _ _ | refine Below.alloc ?_ (by simp) _ | refine Below.drew ?_)⟩
              rw [← R.out]
              have q0 := KO.out
              have q1 := TO.out
              have q2 := SO.out
              simp [opOk, numOk, emp_iff, *]
        · have hvo' : (8192 : Int) < val.size := by omega
          go_enter Try.func41, Try.ntmps41
          go_wp2_with fail
          refine (K1'.out true KO.out _).mono ?_
          rintro e w' ⟨rfl, rfl⟩
          go_wp2_with fail
          refine (I1'.out _ _ _ true TO.out _).mono ?_
          rintro e w' ⟨rfl, rfl⟩
          go_wp2_with fail
          all_goals
            go_ret
            refine ⟨?_, by repeat (first | exact Below.refl _ _ | refine Below.alloc ?_ (by simp) _ | refine Below.drew ?_)⟩
            rw [← R.out]
            have q0 := KO.out
            have q1 := TO.out
            have hv0 : ¬ (val.size : Int) ≤ 8192 := by omega
            simp [opOk, numOk, emp_iff, *]
  by_cases h4 : kind = 4
  · subst h4
    cases hko : keyOk key with
    | false =>
      have KO := Asd.mk hko
      clear hko
      go_enter Try.func41, Try.ntmps41
      go_wp2_with fail
      refine (K1'.out false KO.out _).mono ?_
      rintro e w' ⟨rfl, rfl⟩
      go_wp2_with fail
      all_goals
        go_ret
        refine ⟨?_, by repeat (first | exact Below.refl _ _ | refine Below.alloc ?_ (by simp) _ | refine Below.drew ?_)⟩
        rw [← R.out]
        have q0 := KO.out
        simp [opOk, numOk, emp_iff, *]
    | true =>
      have KO := Asd.mk hko
      clear hko
      cases hto : (decide (0 ≤ test) && decide (test ≤ 1099511627776)) with
      | false =>
        have TO := Asd.mk hto
        clear hto
        go_enter Try.func41, Try.ntmps41
        go_wp2_with fail
        refine (K1'.out true KO.out _).mono ?_
        rintro e w' ⟨rfl, rfl⟩
        go_wp2_with fail
        refine (I1'.out _ _ _ false TO.out _).mono ?_
        rintro e w' ⟨rfl, rfl⟩
        go_wp2_with fail
        all_goals
          go_ret
          refine ⟨?_, by repeat (first | exact Below.refl _ _ | refine Below.alloc ?_ (by simp) _ | refine Below.drew ?_)⟩
          rw [← R.out]
          have q0 := KO.out
          have q1 := TO.out
          simp [opOk, numOk, emp_iff, *]
      | true =>
        have TO := Asd.mk hto
        clear hto
        go_enter Try.func41, Try.ntmps41
        go_wp2_with fail
        refine (K1'.out true KO.out _).mono ?_
        rintro e w' ⟨rfl, rfl⟩
        go_wp2_with fail
        refine (I1'.out _ _ _ true TO.out _).mono ?_
        rintro e w' ⟨rfl, rfl⟩
        go_wp2_with fail
        all_goals
          go_ret
          refine ⟨?_, by repeat (first | exact Below.refl _ _ | refine Below.alloc ?_ (by simp) _ | refine Below.drew ?_)⟩
          rw [← R.out]
          have q0 := KO.out
          have q1 := TO.out
          simp [opOk, numOk, emp_iff, *]
  by_cases h5 : kind = 5
  · subst h5
    cases hko : keyOk key with
    | false =>
      have KO := Asd.mk hko
      clear hko
      go_enter Try.func41, Try.ntmps41
      go_wp2_with fail
      refine (K1'.out false KO.out _).mono ?_
      rintro e w' ⟨rfl, rfl⟩
      go_wp2_with fail
      all_goals
        go_ret
        refine ⟨?_, by repeat (first | exact Below.refl _ _ | refine Below.alloc ?_ (by simp) _ | refine Below.drew ?_)⟩
        rw [← R.out]
        have q0 := KO.out
        simp [opOk, numOk, emp_iff, *]
    | true =>
      have KO := Asd.mk hko
      clear hko
      cases hto : (decide (0 ≤ test) && decide (test ≤ 1099511627776)) with
      | false =>
        have TO := Asd.mk hto
        clear hto
        go_enter Try.func41, Try.ntmps41
        go_wp2_with fail
        refine (K1'.out true KO.out _).mono ?_
        rintro e w' ⟨rfl, rfl⟩
        go_wp2_with fail
        refine (I1'.out _ _ _ false TO.out _).mono ?_
        rintro e w' ⟨rfl, rfl⟩
        go_wp2_with fail
        all_goals
          go_ret
          refine ⟨?_, by repeat (first | exact Below.refl _ _ | refine Below.alloc ?_ (by simp) _ | refine Below.drew ?_)⟩
          rw [← R.out]
          have q0 := KO.out
          have q1 := TO.out
          simp [opOk, numOk, emp_iff, *]
      | true =>
        have TO := Asd.mk hto
        clear hto
        go_enter Try.func41, Try.ntmps41
        go_wp2_with fail
        refine (K1'.out true KO.out _).mono ?_
        rintro e w' ⟨rfl, rfl⟩
        go_wp2_with fail
        refine (I1'.out _ _ _ true TO.out _).mono ?_
        rintro e w' ⟨rfl, rfl⟩
        go_wp2_with fail
        all_goals
          go_ret
          refine ⟨?_, by repeat (first | exact Below.refl _ _ | refine Below.alloc ?_ (by simp) _ | refine Below.drew ?_)⟩
          rw [← R.out]
          have q0 := KO.out
          have q1 := TO.out
          simp [opOk, numOk, emp_iff, *]
  by_cases h6 : kind = 6
  · subst h6
    cases hko : keyOk key with
    | false =>
      have KO := Asd.mk hko
      clear hko
      by_cases hl : (key.size : Int) ≤ 64
      · cases hmo : (decide (1 ≤ most) && decide (most ≤ 100)) with
        | false =>
          have MO := Asd.mk hmo
          clear hmo
          go_enter Try.func41, Try.ntmps41
          go_wp2_with fail
          refine (K1'.out false KO.out _).mono ?_
          rintro e w' ⟨rfl, rfl⟩
          go_wp2_with fail
          refine (I1'.out _ _ _ false MO.out _).mono ?_
          rintro e w' ⟨rfl, rfl⟩
          go_wp2_with fail
          all_goals
            go_ret
            refine ⟨?_, by repeat (first | exact Below.refl _ _ | refine Below.alloc ?_ (by simp) _ | refine Below.drew ?_)⟩
            rw [← R.out]
            have q0 := MO.out
            simp [opOk, numOk, emp_iff, *]
        | true =>
          have MO := Asd.mk hmo
          clear hmo
          go_enter Try.func41, Try.ntmps41
          go_wp2_with fail
          refine (K1'.out false KO.out _).mono ?_
          rintro e w' ⟨rfl, rfl⟩
          go_wp2_with fail
          refine (I1'.out _ _ _ true MO.out _).mono ?_
          rintro e w' ⟨rfl, rfl⟩
          go_wp2_with fail
          all_goals
            go_ret
            refine ⟨?_, by repeat (first | exact Below.refl _ _ | refine Below.alloc ?_ (by simp) _ | refine Below.drew ?_)⟩
            rw [← R.out]
            have q0 := MO.out
            simp [opOk, numOk, emp_iff, *]
      · have hl' : (64 : Int) < key.size := by omega
        go_enter Try.func41, Try.ntmps41
        go_wp2_with fail
        refine (K1'.out false KO.out _).mono ?_
        rintro e w' ⟨rfl, rfl⟩
        go_wp2_with fail
        all_goals
          go_ret
          refine ⟨?_, by repeat (first | exact Below.refl _ _ | refine Below.alloc ?_ (by simp) _ | refine Below.drew ?_)⟩
          rw [← R.out]
          have hl0 : ¬ (key.size : Int) ≤ 64 := by omega
          simp [opOk, numOk, emp_iff, *]
    | true =>
      have KO := Asd.mk hko
      clear hko
      by_cases hl : (key.size : Int) ≤ 64
      · cases hmo : (decide (1 ≤ most) && decide (most ≤ 100)) with
        | false =>
          have MO := Asd.mk hmo
          clear hmo
          go_enter Try.func41, Try.ntmps41
          go_wp2_with fail
          refine (K1'.out true KO.out _).mono ?_
          rintro e w' ⟨rfl, rfl⟩
          go_wp2_with fail
          refine (op_in _ _ _ _).mono ?_
          rintro e w' ⟨rfl, rfl⟩
          go_wp2_with fail
          refine (I1'.out _ _ _ false MO.out _).mono ?_
          rintro e w' ⟨rfl, rfl⟩
          go_wp2_with fail
          all_goals
            go_ret
            refine ⟨?_, by repeat (first | exact Below.refl _ _ | refine Below.alloc ?_ (by simp) _ | refine Below.drew ?_)⟩
            rw [← R.out]
            have q0 := MO.out
            simp [opOk, numOk, emp_iff, *]
        | true =>
          have MO := Asd.mk hmo
          clear hmo
          go_enter Try.func41, Try.ntmps41
          go_wp2_with fail
          refine (K1'.out true KO.out _).mono ?_
          rintro e w' ⟨rfl, rfl⟩
          go_wp2_with fail
          refine (op_in _ _ _ _).mono ?_
          rintro e w' ⟨rfl, rfl⟩
          go_wp2_with fail
          refine (I1'.out _ _ _ true MO.out _).mono ?_
          rintro e w' ⟨rfl, rfl⟩
          go_wp2_with fail
          all_goals
            go_ret
            refine ⟨?_, by repeat (first | exact Below.refl _ _ | refine Below.alloc ?_ (by simp) _ | refine Below.drew ?_)⟩
            rw [← R.out]
            have q0 := MO.out
            simp [opOk, numOk, emp_iff, *]
      · have hl' : (64 : Int) < key.size := by omega
        go_enter Try.func41, Try.ntmps41
        go_wp2_with fail
        refine (K1'.out true KO.out _).mono ?_
        rintro e w' ⟨rfl, rfl⟩
        go_wp2_with fail
        refine (op_in _ _ _ _).mono ?_
        rintro e w' ⟨rfl, rfl⟩
        go_wp2_with fail
        all_goals
          go_ret
          refine ⟨?_, by repeat (first | exact Below.refl _ _ | refine Below.alloc ?_ (by simp) _ | refine Below.drew ?_)⟩
          rw [← R.out]
          have hl0 : ¬ (key.size : Int) ≤ 64 := by omega
          simp [opOk, numOk, emp_iff, *]
  · cases hko : keyOk key with
    | false =>
      have KO := Asd.mk hko
      clear hko
      go_enter Try.func41, Try.ntmps41
      go_wp2_with fail
      refine (K1'.out false KO.out _).mono ?_
      rintro e w' ⟨rfl, rfl⟩
      go_wp2_with fail
      all_goals
        go_ret
        refine ⟨?_, by repeat (first | exact Below.refl _ _ | refine Below.alloc ?_ (by simp) _ | refine Below.drew ?_)⟩
        rw [← R.out]
        simp [opOk, numOk, emp_iff, *]
    | true =>
      have KO := Asd.mk hko
      clear hko
      go_enter Try.func41, Try.ntmps41
      go_wp2_with fail
      refine (K1'.out true KO.out _).mono ?_
      rintro e w' ⟨rfl, rfl⟩
      go_wp2_with fail
      refine (op_in _ _ _ _).mono ?_
      rintro e w' ⟨rfl, rfl⟩
      go_wp2_with fail
      all_goals
        go_ret
        refine ⟨?_, by repeat (first | exact Below.refl _ _ | refine Below.alloc ?_ (by simp) _ | refine Below.drew ?_)⟩
        rw [← R.out]
        simp [opOk, numOk, emp_iff, *]
end Go.Proofs.Ytlhjfblpinpjiaa

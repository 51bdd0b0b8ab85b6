/- Keys: strings by their bytes, ordered as Go orders them. Operations: which may be. -/
import Derived.Lib.Bytealg
import Derived.Test.YtallnibjmffahaaGreatDoorProg
import Derived.WalkKit
set_option linter.unusedVariables false
set_option linter.unusedSimpArgs false
namespace Go.Proofs.YtallnibjmffahaaGreatDoor

/-- A fact that the walk doesn't look into. -/
structure Asd (p : Prop) : Prop where mk :: (out : p)

theorem toList_eq (s : ByteArray) : s.toList = s.data.toList := ByteArray.toList_eq s

/-- a before b, as Go orders strings. -/
def klt (a b : ByteArray) : Prop := a.data.toList < b.data.toList
instance (a b : ByteArray) : Decidable (klt a b) := inferInstanceAs (Decidable (a.data.toList < b.data.toList))

theorem key_ext {a b : ByteArray} (h : a.data.toList = b.data.toList) : a = b := by
  cases a; cases b; simp_all [Array.toList_inj]
theorem klt_irrefl (a : ByteArray) : ¬ klt a a := List.lt_irrefl _
theorem klt_trans {a b c : ByteArray} (h : klt a b) (h' : klt b c) : klt a c := List.lt_trans h h'
theorem klt_asymm {a b : ByteArray} (h : klt a b) : ¬ klt b a := fun h' => klt_irrefl _ (klt_trans h h')
theorem klt_tri (a b : ByteArray) : klt a b ∨ a = b ∨ klt b a := by
  by_cases h1 : klt a b
  · exact .inl h1
  · by_cases h2 : klt b a
    · exact .inr (.inr h2)
    · refine .inr (.inl (key_ext ?_))
      exact List.le_antisymm (List.not_lt.1 h2) (List.not_lt.1 h1)
theorem klt_ne {a b : ByteArray} (h : klt a b) : a ≠ b := by rintro rfl; exact klt_irrefl _ h
theorem not_klt {a b : ByteArray} (h : ¬ klt a b) : a = b ∨ klt b a := (klt_tri a b).resolve_left h
theorem not_klt_trans {a b c : ByteArray} (h : ¬ klt b a) (h' : klt b c) : klt a c := by
  rcases not_klt h with rfl | h
  · exact h'
  · exact klt_trans h h'
theorem klt_not_trans {a b c : ByteArray} (h : klt a b) (h' : ¬ klt c b) : klt a c := by
  rcases not_klt h' with rfl | h'
  · exact h
  · exact klt_trans h h'

theorem compare_spec : ∀ (a b : List UInt8), Lib.compareBytes a b = if a < b then -1 else if b < a then 1 else 0
  | [], [] => by simp [Lib.compareBytes]
  | [], _ :: _ => by simp [Lib.compareBytes]
  | _ :: _, [] => by simp [Lib.compareBytes]
  | x :: a, y :: b => by
    have ih := compare_spec a b
    unfold Lib.compareBytes
    simp only [List.cons_lt_cons_iff]
    by_cases h1 : x < y
    · simp [h1]
    · by_cases h2 : y < x
      · have h3 : x ≠ y := by rintro rfl; exact h1 h2
        simp [h1, h2, h3]
      · have h3 : x = y := by
          have := UInt8.le_antisymm (UInt8.not_lt.1 h2) (UInt8.not_lt.1 h1)
          exact this
        subst h3
        simp [h1, ih]
theorem cmp_lt (a b : ByteArray) : Lib.compareBytes a.data.toList b.data.toList < 0 ↔ klt a b := by
  rw [compare_spec]
  by_cases h1 : a.data.toList < b.data.toList
  · simp [h1, klt]
  · by_cases h2 : b.data.toList < a.data.toList <;> simp [h1, h2, klt]
theorem cmp_gt (a b : ByteArray) : 0 < Lib.compareBytes a.data.toList b.data.toList ↔ klt b a := by
  rw [compare_spec]
  by_cases h1 : a.data.toList < b.data.toList
  · have := klt_asymm (a := a) (b := b) h1
    simp [h1, this]
  · by_cases h2 : b.data.toList < a.data.toList <;> simp [h1, h2, klt]
theorem cmp_zero (a b : ByteArray) : Lib.compareBytes a.data.toList b.data.toList = 0 ↔ a = b := by
  have h1 := cmp_lt a b
  have h2 := cmp_gt a b
  rcases klt_tri a b with h | h | h
  · have := klt_ne h
    simp only [h, iff_true] at h1
    constructor
    · intro e; omega
    · intro e; exact absurd e this
  · subst h
    have := klt_irrefl a
    simp only [this, iff_false] at h1 h2
    constructor
    · intro; rfl
    · intro; omega
  · have := klt_ne h
    simp only [h, iff_true] at h2
    constructor
    · intro e; omega
    · intro e; exact absurd e.symm this

theorem bytesLess_lt : ∀ (a b : List UInt8), Op.bytesLess a b = decide (a < b)
  | [], [] => by simp [Op.bytesLess]
  | [], _ :: _ => by simp [Op.bytesLess]
  | _ :: _, [] => by simp [Op.bytesLess]
  | x :: a, y :: b => by
    unfold Op.bytesLess
    rw [bytesLess_lt a b]
    simp only [List.cons_lt_cons_iff, Bool.decide_or, Bool.decide_and]
    congr 2
theorem less_eq (a b : ByteArray) : Op.bytesLess a.toList b.toList = decide (klt a b) := by
  rw [toList_eq, toList_eq, bytesLess_lt]
  rfl
theorem same_eq (a b : ByteArray) : (a.toList == b.toList) = decide (a = b) := by
  rw [toList_eq, toList_eq]
  by_cases h : a = b
  · subst h; simp
  · have : a.data.toList ≠ b.data.toList := fun e => h (key_ext e)
    rw [decide_eq_false h]
    exact beq_eq_false_iff_ne.2 this
theorem empty_eq (a : ByteArray) : a.toList.isEmpty = decide (a.size = 0) := by
  rw [toList_eq]
  rw [Bool.eq_iff_iff]
  rw [List.isEmpty_iff_length_eq_zero]
  simp
theorem nil_lt {a : ByteArray} (h : a.size ≠ 0) : klt ⟨#[]⟩ a := by
  unfold klt
  have : a.data.toList ≠ [] := by
    intro e
    apply h
    have : a.data.toList.length = a.size := by simp
    rw [e] at this
    simpa using this.symm
  cases e : a.data.toList with
  | nil => exact absurd e this
  | cons x y => simp
theorem not_lt_nil (a : ByteArray) : ¬ klt a ⟨#[]⟩ := by simp [klt]
theorem size_zero {a : ByteArray} (h : a.size = 0) : a = ⟨#[]⟩ := by
  apply key_ext
  have : a.data.toList.length = a.size := by simp
  rw [h] at this
  exact List.eq_nil_of_length_eq_zero this

theorem emp_iff (a : ByteArray) : (a = ByteArray.empty) = (a.toList = []) := by
  rw [toList_eq]
  apply propext
  constructor
  · rintro rfl; rfl
  · intro h; exact key_ext (by rw [h]; rfl)

end Go.Proofs.YtallnibjmffahaaGreatDoor

set_option linter.unusedVariables false
set_option linter.unusedSimpArgs false
namespace Go.Proofs.YtallnibjmffahaaGreatDoor
open Go.RowKit

structure OpR where
  kind : Int
  key : ByteArray
  val : ByteArray
  stamp : Int
  test : Int
  most : Int
def OpR.enc (x : OpR) : List Value := [.int .i64 x.kind, .string x.key, .string x.val, .int .i64 x.stamp, .int .i64 x.test, .int .i64 x.most]
instance : Inhabited OpR := ⟨⟨0, ⟨#[]⟩, ⟨#[]⟩, 0, 0, 0⟩⟩

theorem op_in (a b c : Int) (w : World) :
    Calls Tryz.prog 40 #[.int .i64 a, .int .i64 b, .int .i64 c] w fun e w' => e = .returned (.bool (decide (b ≤ a) && decide (a ≤ c))) ∧ w = w' := by
  by_cases h1 : b ≤ a
  · by_cases h2 : a ≤ c
    · go_enter Tryz.func40, Tryz.ntmps40
      go_wp2
      go_ret
      exact ⟨by simp [h1, h2], rfl⟩
    · go_enter Tryz.func40, Tryz.ntmps40
      go_wp2
      go_ret
      have h3 : decide (a ≤ c) = false := decide_eq_false (by omega)
      exact ⟨by rw [h3]; simp, rfl⟩
  · go_enter Tryz.func40, Tryz.ntmps40
    go_wp2
    go_ret
    have h3 : decide (b ≤ a) = false := decide_eq_false (by omega)
    exact ⟨by rw [h3]; simp, rfl⟩

def keyOk (s : ByteArray) : Bool := decide (1 ≤ (s.size : Int)) && decide ((s.size : Int) ≤ 64)
theorem op_key (s : ByteArray) (hs : s.size ≤ 9223372036854775807) (w : World) :
    Calls Tryz.prog 65 #[.string s] w fun e w' => e = .returned (.bool (keyOk s)) ∧ w = w' := by
  go_enter Tryz.func65, Tryz.ntmps65
  go_wp2_with fail
  refine (op_in _ _ _ _).mono ?_
  rintro e w' ⟨rfl, rfl⟩
  go_wp2_with fail
  go_ret
  exact ⟨rfl, rfl⟩

def numOk (n : Int) (lo : Int) : Bool := decide (lo ≤ n) && decide (n ≤ 1099511627776)
/-- op.Check says that an operation may be. -/
def opOk (x : OpR) : Bool :=
  if x.kind = 1 then keyOk x.key && numOk x.test 0 && decide ((x.val.size : Int) ≤ 8192) && numOk x.stamp 1 && decide (x.test = 0) && decide (x.most = 0)
  else if x.kind = 2 ∨ x.kind = 3 then keyOk x.key && numOk x.test 0 && decide ((x.val.size : Int) ≤ 8192) && numOk x.stamp 1 && decide (x.most = 0)
  else if x.kind = 4 ∨ x.kind = 5 then keyOk x.key && numOk x.test 0 && decide (x.val.size = 0) && decide (x.stamp = 0) && decide (x.most = 0)
  else if x.kind = 6 then decide ((x.key.size : Int) ≤ 64) && (decide (1 ≤ x.most) && decide (x.most ≤ 100)) && decide (x.val.size = 0) && decide (x.stamp = 0) && decide (x.test = 0)
  else false

set_option maxHeartbeats 4000000 in
theorem Check_calls (x : OpR) (hk : x.key.size ≤ 9223372036854775807) (hv : x.val.size ≤ 9223372036854775807) (w : World) :
    Calls Tryz.prog 42 #[.agg x.enc.toArray] w fun e w' => e = .returned (.int .i64 (if opOk x then 0 else 80)) ∧ Below w.heap.size w w' := by
  obtain ⟨kind, key, val, stamp, test, most⟩ := x
  simp only at hk hv
  generalize hr : (if opOk ⟨kind, key, val, stamp, test, most⟩ then (0 : Int) else 80) = r
  have R := Asd.mk hr
  clear hr
  unfold OpR.enc
  have K1 := fun (b : Bool) (h : keyOk key = b) (W : World) => (op_key key hk W).mono (R' := fun e w' => e = .returned (.bool b) ∧ W = w') fun e w' q => ⟨by rw [q.1, h], q.2⟩
  have I1 := fun (n lo hi : Int) (b : Bool) (h : (decide (lo ≤ n) && decide (n ≤ hi)) = b) (W : World) => (op_in n lo hi W).mono (R' := fun e w' => e = .returned (.bool b) ∧ W = w') fun e w' q => ⟨by rw [q.1, h], q.2⟩
  have K1' := Asd.mk K1
  have I1' := Asd.mk I1
  clear K1 I1
  by_cases h1 : kind = 1
  · subst h1
    cases hko : keyOk key with
    | false =>
      have KO := Asd.mk hko
      clear hko
      go_enter Tryz.func42, Tryz.ntmps42
      go_wp2_with fail
      refine (K1'.out false KO.out _).mono ?_
      rintro e w' ⟨rfl, rfl⟩
      go_wp2_with fail
      all_goals
        go_ret
        refine ⟨?_, by repeat (first | exact Below.refl _ _ | refine Below.alloc ?_ (by simp) _ | refine Below.drew ?_)⟩
        rw [← R.out]
        have q0 := KO.out
        simp [opOk, numOk, emp_iff, *]
    | true =>
      have KO := Asd.mk hko
      clear hko
      cases hto : (decide (0 ≤ test) && decide (test ≤ 1099511627776)) with
      | false =>
        have TO := Asd.mk hto
        clear hto
        go_enter Tryz.func42, Tryz.ntmps42
        go_wp2_with fail
        refine (K1'.out true KO.out _).mono ?_
        rintro e w' ⟨rfl, rfl⟩
        go_wp2_with fail
        refine (I1'.out _ _ _ false TO.out _).mono ?_
        rintro e w' ⟨rfl, rfl⟩
        go_wp2_with fail
        all_goals
          go_ret
          refine ⟨?_, by repeat (first | exact Below.refl _ _ | refine Below.alloc ?_ (by simp) _ | refine Below.drew ?_)⟩
          rw [← R.out]
          have q0 := KO.out
          have q1 := TO.out
          simp [opOk, numOk, emp_iff, *]
      | true =>
        have TO := Asd.mk hto
        clear hto
        by_cases hvo : (val.size : Int) ≤ 8192
        · cases hso : (decide (1 ≤ stamp) && decide (stamp ≤ 1099511627776)) with
          | false =>
            have SO := Asd.mk hso
            clear hso
            go_enter Tryz.func42, Tryz.ntmps42
            go_wp2_with fail
            refine (K1'.out true KO.out _).mono ?_
            rintro e w' ⟨rfl, rfl⟩
            go_wp2_with fail
            refine (I1'.out _ _ _ true TO.out _).mono ?_
            rintro e w' ⟨rfl, rfl⟩
            go_wp2_with fail
            refine (I1'.out _ _ _ false SO.out _).mono ?_
            rintro e w' ⟨rfl, rfl⟩
            go_wp2_with fail
            all_goals
              go_ret
              refine ⟨?_, by repeat (first | exact Below.refl _ _ | refine Below.alloc ?_ (by simp) _ | refine Below.drew ?_)⟩
              rw [← R.out]
              have q0 := KO.out
              have q1 := TO.out
              have q2 := SO.out
              simp [opOk, numOk, emp_iff, *]
          | true =>
            have SO := Asd.mk hso
            clear hso
            go_enter Tryz.func42, Tryz.ntmps42
            go_wp2_with fail
            refine (K1'.out true KO.out _).mono ?_
            rintro e w' ⟨rfl, rfl⟩
            go_wp2_with fail
            refine (I1'.out _ _ _ true TO.out _).mono ?_
            rintro e w' ⟨rfl, rfl⟩
            go_wp2_with fail
            refine (I1'.out _ _ _ true SO.out _).mono ?_
            rintro e w' ⟨rfl, rfl⟩
            go_wp2_with fail
            all_goals
              go_ret
              refine ⟨?_, by repeat (first | exact Below.refl _ _ | refine Below.alloc ?_ (by simp) _ | refine Below.drew ?_)⟩
              rw [← R.out]
              have q0 := KO.out
              have q1 := TO.out
              have q2 := SO.out
              simp [opOk, numOk, emp_iff, *]
        · have hvo' : (8192 : Int) < val.size := by omega
          go_enter Tryz.func42, Tryz.ntmps42
          go_wp2_with fail
          refine (K1'.out true KO.out _).mono ?_
          rintro e w' ⟨rfl, rfl⟩
          go_wp2_with fail
          refine (I1'.out _ _ _ true TO.out _).mono ?_
          rintro e w' ⟨rfl, rfl⟩
          go_wp2_with fail
          all_goals
            go_ret
            refine ⟨?_, by repeat (first | exact Below.refl _ _ | refine Below.alloc ?_ (by simp) _ | refine Below.drew ?_)⟩
            rw [← R.out]
            have q0 := KO.out
            have q1 := TO.out
            have hv0 : ¬ (val.size : Int) ≤ 8192 := by omega
            simp [opOk, numOk, emp_iff, *]
  by_cases h2 : kind = 2
  · subst h2
    cases hko : keyOk key with
    | false =>
      have KO := Asd.mk hko
      clear hko
      go_enter Tryz.func42, Tryz.ntmps42
      go_wp2_with fail
      refine (K1'.out false KO.out _).mono ?_
      rintro e w' ⟨rfl, rfl⟩
      go_wp2_with fail
      all_goals
        go_ret
        refine ⟨?_, by repeat (first | exact Below.refl _ _ | refine Below.alloc ?_ (by simp) _ | refine Below.drew ?_)⟩
        rw [← R.out]
        have q0 := KO.out
        simp [opOk, numOk, emp_iff, *]
    | true =>
      have KO := Asd.mk hko
      clear hko
      cases hto : (decide (0 ≤ test) && decide (test ≤ 1099511627776)) with
      | false =>
        have TO := Asd.mk hto
        clear hto
        go_enter Tryz.func42, Tryz.ntmps42
        go_wp2_with fail
        refine (K1'.out true KO.out _).mono ?_
        rintro e w' ⟨rfl, rfl⟩
        go_wp2_with fail
        refine (I1'.out _ _ _ false TO.out _).mono ?_
        rintro e w' ⟨rfl, rfl⟩
        go_wp2_with fail
        all_goals
          go_ret
          refine ⟨?_, by repeat (first | exact Below.refl _ _ | refine Below.alloc ?_ (by simp) _ | refine Below.drew ?_)⟩
          rw [← R.out]
          have q0 := KO.out
          have q1 := TO.out
          simp [opOk, numOk, emp_iff, *]
      | true =>
        have TO := Asd.mk hto
        clear hto
        by_cases hvo : (val.size : Int) ≤ 8192
        · cases hso : (decide (1 ≤ stamp) && decide (stamp ≤ 1099511627776)) with
          | false =>
            have SO := Asd.mk hso
            clear hso
            go_enter Tryz.func42, Tryz.ntmps42
            go_wp2_with fail
            refine (K1'.out true KO.out _).mono ?_
            rintro e w' ⟨rfl, rfl⟩
            go_wp2_with fail
            refine (I1'.out _ _ _ true TO.out _).mono ?_
            rintro e w' ⟨rfl, rfl⟩
            go_wp2_with fail
            refine (I1'.out _ _ _ false SO.out _).mono ?_
            rintro e w' ⟨rfl, rfl⟩
            go_wp2_with fail
            all_goals
              go_ret
              refine ⟨?_, by repeat (first | exact Below.refl _ _ | refine Below.alloc ?_ (by simp) _ | refine Below.drew ?_)⟩
              rw [← R.out]
              have q0 := KO.out
              have q1 := TO.out
              have q2 := SO.out
              simp [opOk, numOk, emp_iff, *]
          | true =>
            have SO := Asd.mk hso
            clear hso
            go_enter Tryz.func42, Tryz.ntmps42
            go_wp2_with fail
            refine (K1'.out true KO.out _).mono ?_
            rintro e w' ⟨rfl, rfl⟩
            go_wp2_with fail
            refine (I1'.out _ _ _ true TO.out _).mono ?_
            rintro e w' ⟨rfl, rfl⟩
            go_wp2_with fail
            refine (I1'.out _ _ _ true SO.out _).mono ?_
            rintro e w' ⟨rfl, rfl⟩
            go_wp2_with fail
            all_goals
              go_ret
              refine ⟨?_, by repeat (first | exact Below.refl _ _ | refine Below.alloc ?_ (by simp) _ | refine Below.drew ?_)⟩
              rw [← R.out]
              have q0 := KO.out
              have q1 := TO.out
              have q2 := SO.out
              simp [opOk, numOk, emp_iff, *]
        · have hvo' : (8192 : Int) < val.size := by omega
          go_enter Tryz.func42, Tryz.ntmps42
          go_wp2_with fail
          refine (K1'.out true KO.out _).mono ?_
          rintro e w' ⟨rfl, rfl⟩
          go_wp2_with fail
          refine (I1'.out _ _ _ true TO.out _).mono ?_
          rintro e w' ⟨rfl, rfl⟩
          go_wp2_with fail
          all_goals
            go_ret
            refine ⟨?_, by repeat (first | exact Below.refl _ _ | refine Below.alloc ?_ (by simp) _ | refine Below.drew ?_)⟩
            rw [← R.out]
            have q0 := KO.out
            have q1 := TO.out
            have hv0 : ¬ (val.size : Int) ≤ 8192 := by omega
            simp [opOk, numOk, emp_iff, *]
  by_cases h3 : kind = 3
  · subst h3
    cases hko : keyOk key with
    | false =>
      have KO := Asd.mk hko
      clear hko
      go_enter Tryz.func42, Tryz.ntmps42
      go_wp2_with fail
      refine (K1'.out false KO.out _).mono ?_
      rintro e w' ⟨rfl, rfl⟩
      go_wp2_with fail
      all_goals
        go_ret
        refine ⟨?_, by repeat (first | exact Below.refl _ _ | refine Below.alloc ?_ (by simp) _ | refine Below.drew ?_)⟩
        rw [← R.out]
        have q0 := KO.out
        simp [opOk, numOk, emp_iff, *]
    | true =>
      have KO := Asd.mk hko
      clear hko
      cases hto : (decide (0 ≤ test) && decide (test ≤ 1099511627776)) with
      | false =>
        have TO := Asd.mk hto
        clear hto
        go_enter Tryz.func42, Tryz.ntmps42
        go_wp2_with fail
        refine (K1'.out true KO.out _).mono ?_
        rintro e w' ⟨rfl, rfl⟩
        go_wp2_with fail
        refine (I1'.out _ _ _ false TO.out _).mono ?_
        rintro e w' ⟨rfl, rfl⟩
        go_wp2_with fail
        all_goals
          go_ret
          refine ⟨?_, by repeat (first | exact Below.refl _ _ | refine Below.alloc ?_ (by simp) _ | refine Below.drew ?_)⟩
          rw [← R.out]
          have q0 := KO.out
          have q1 := TO.out
          simp [opOk, numOk, emp_iff, *]
      | true =>
        have TO := Asd.mk hto
        clear hto
        by_cases hvo : (val.size : Int) ≤ 8192
        · cases hso : (decide (1 ≤ stamp) && decide (stamp ≤ 1099511627776)) with
          | false =>
            have SO := Asd.mk hso
            clear hso
            go_enter Tryz.func42, Tryz.ntmps42
            go_wp2_with fail
            refine (K1'.out true KO.out _).mono ?_
            rintro e w' ⟨rfl, rfl⟩
            go_wp2_with fail
            refine (I1'.out _ _ _ true TO.out _).mono ?_
            rintro e w' ⟨rfl, rfl⟩
            go_wp2_with fail
            refine (I1'.out _ _ _ false SO.out _).mono ?_
            rintro e w' ⟨rfl, rfl⟩
            go_wp2_with fail
            all_goals
              go_ret
              refine ⟨?_, by repeat (first | exact Below.refl _ _ | refine Below.alloc ?_ (by simp) _ | refine Below.drew ?_)⟩
              rw [← R.out]
              have q0 := KO.out
              have q1 := TO.out
              have q2 := SO.out
              simp [opOk, numOk, emp_iff, *]
          | true =>
            have SO := Asd.mk hso
            clear hso
            go_enter Tryz.func42, Tryz.ntmps42
            go_wp2_with fail
            refine (K1'.out true KO.out _).mono ?_
            rintro e w' ⟨rfl, rfl⟩
            go_wp2_with fail
            refine (I1'.out _ _ _ true TO.out _).mono ?_
            rintro e w' ⟨rfl, rfl⟩
            go_wp2_with fail
            refine (I1'.out _ _ _ true SO.out _).mono ?_
            rintro e w' ⟨rfl, rfl⟩
            go_wp2_with fail
            all_goals
              go_ret
              refine ⟨?_, by repeat (first | exact Below.refl _ _ | refine Below.alloc ?_ (by simp) _ | refine Below.drew ?_)⟩
              rw [← R.out]
              have q0 := KO.out
              have q1 := TO.out
              have q2 := SO.out
              simp [opOk, numOk, emp_iff, *]
        · have hvo' : (8192 : Int) < val.size := by omega
          go_enter Tryz.func42, Tryz.ntmps42
          go_wp2_with fail
          refine (K1'.out true KO.out _).mono ?_
          rintro e w' ⟨rfl, rfl⟩
          go_wp2_with fail
          refine (I1'.out _ _ _ true TO.out _).mono ?_
          rintro e w' ⟨rfl, rfl⟩
          go_wp2_with fail
          all_goals
            go_ret
            refine ⟨?_, by repeat (first | exact Below.refl _ _ | refine Below.alloc ?_ (by simp) _ | refine Below.drew ?_)⟩
            rw [← R.out]
            have q0 := KO.out
            have q1 := TO.out
            have hv0 : ¬ (val.size : Int) ≤ 8192 := by omega
            simp [opOk, numOk, emp_iff, *]
  by_cases h4 : kind = 4
  · subst h4
    cases hko : keyOk key with
    | false =>
      have KO := Asd.mk hko
      clear hko
      go_enter Tryz.func42, Tryz.ntmps42
      go_wp2_with fail
      refine (K1'.out false KO.out _).mono ?_
      rintro e w' ⟨rfl, rfl⟩
      go_wp2_with fail
      all_goals
        go_ret
        refine ⟨?_, by repeat (first | exact Below.refl _ _ | refine Below.alloc ?_ (by simp) _ | refine Below.drew ?_)⟩
        rw [← R.out]
        have q0 := KO.out
        simp [opOk, numOk, emp_iff, *]
    | true =>
      have KO := Asd.mk hko
      clear hko
      cases hto : (decide (0 ≤ test) && decide (test ≤ 1099511627776)) with
      | false =>
        have TO := Asd.mk hto
        clear hto
        go_enter Tryz.func42, Tryz.ntmps42
        go_wp2_with fail
        refine (K1'.out true KO.out _).mono ?_
        rintro e w' ⟨rfl, rfl⟩
        go_wp2_with fail
        refine (I1'.out _ _ _ false TO.out _).mono ?_
        rintro e w' ⟨rfl, rfl⟩
        go_wp2_with fail
        all_goals
          go_ret
          refine ⟨?_, by repeat (first | exact Below.refl _ _ | refine Below.alloc ?_ (by simp) _ | refine Below.drew ?_)⟩
          rw [← R.out]
          have q0 := KO.out
          have q1 := TO.out
          simp [opOk, numOk, emp_iff, *]
      | true =>
        have TO := Asd.mk hto
        clear hto
        go_enter Tryz.func42, Tryz.ntmps42
        go_wp2_with fail
        refine (K1'.out true KO.out _).mono ?_
        rintro e w' ⟨rfl, rfl⟩
        go_wp2_with fail
        refine (I1'.out _ _ _ true TO.out _).mono ?_
        rintro e w' ⟨rfl, rfl⟩
        go_wp2_with fail
        all_goals
          go_ret
          refine ⟨?_, by repeat (first | exact Below.refl _ _ | refine Below.alloc ?_ (by simp) _ | refine Below.drew ?_)⟩
          rw [← R.out]
          have q0 := KO.out
          have q1 := TO.out
          simp [opOk, numOk, emp_iff, *]
  by_cases h5 : kind = 5
  · subst h5
    cases hko : keyOk key with
    | false =>
      have KO := Asd.mk hko
      clear hko
      go_enter Tryz.func42, Tryz.ntmps42
      go_wp2_with fail
      refine (K1'.out false KO.out _).mono ?_
      rintro e w' ⟨rfl, rfl⟩
      go_wp2_with fail
      all_goals
        go_ret
        refine ⟨?_, by repeat (first | exact Below.refl _ _ | refine Below.alloc ?_ (by simp) _ | refine Below.drew ?_)⟩
        rw [← R.out]
        have q0 := KO.out
        simp [opOk, numOk, emp_iff, *]
    | true =>
      have KO := Asd.mk hko
      clear hko
      cases hto : (decide (0 ≤ test) && decide (test ≤ 1099511627776)) with
      | false =>
        have TO := Asd.mk hto
        clear hto
        go_enter Tryz.func42, Tryz.ntmps42
        go_wp2_with fail
        refine (K1'.out true KO.out _).mono ?_
        rintro e w' ⟨rfl, rfl⟩
        go_wp2_with fail
        refine (I1'.out _ _ _ false TO.out _).mono ?_
        rintro e w' ⟨rfl, rfl⟩
        go_wp2_with fail
        all_goals
          go_ret
          refine ⟨?_, by repeat (first | exact Below.refl _ _ | refine Below.alloc ?_ (by simp) _ | refine Below.drew ?_)⟩
          rw [← R.out]
          have q0 := KO.out
          have q1 := TO.out
          simp [opOk, numOk, emp_iff, *]
      | true =>
        have TO := Asd.mk hto
        clear hto
        go_enter Tryz.func42, Tryz.ntmps42
        go_wp2_with fail
        refine (K1'.out true KO.out _).mono ?_
        rintro e w' ⟨rfl, rfl⟩
        go_wp2_with fail
        refine (I1'.out _ _ _ true TO.out _).mono ?_
        rintro e w' ⟨rfl, rfl⟩
        go_wp2_with fail
        all_goals
          go_ret
          refine ⟨?_, by repeat (first | exact Below.refl _ _ | refine Below.alloc ?_ (by simp) _ | refine Below.drew ?_)⟩
          rw [← R.out]
          have q0 := KO.out
          have q1 := TO.out
          simp [opOk, numOk, emp_iff, *]
  by_cases h6 : kind = 6
  · subst h6
    cases hko : keyOk key with
    | false =>
      have KO := Asd.mk hko
      clear hko
      by_cases hl : (key.size : Int) ≤ 64
      · cases hmo : (decide (1 ≤ most) && decide (most ≤ 100)) with
        | false =>
          have MO := Asd.mk hmo
          clear hmo
          go_enter Tryz.func42, Tryz.ntmps42
          go_wp2_with fail
          refine (K1'.out false KO.out _).mono ?_
          rintro e w' ⟨rfl, rfl⟩
          go_wp2_with fail
          refine (I1'.out _ _ _ false MO.out _).mono ?_
          rintro e w' ⟨rfl, rfl⟩
          go_wp2_with fail
          all_goals
            go_ret
            refine ⟨?_, by repeat (first | exact Below.refl _ _ | refine Below.alloc ?_ (by simp) _ | refine Below.drew ?_)⟩
            rw [← R.out]
            have q0 := MO.out
            simp [opOk, numOk, emp_iff, *]
        | true =>
          have MO := Asd.mk hmo
          clear hmo
          go_enter Tryz.func42, Tryz.ntmps42
          go_wp2_with fail
          refine (K1'.out false KO.out _).mono ?_
          rintro e w' ⟨rfl, rfl⟩
          go_wp2_with fail
          refine (I1'.out _ _ _ true MO.out _).mono ?_
          rintro e w' ⟨rfl, rfl⟩
          go_wp2_with fail
          all_goals
            go_ret
            refine ⟨?_, by repeat (first | exact Below.refl _ _ | refine Below.alloc ?_ (by simp) _ | refine Below.drew ?_)⟩
            rw [← R.out]
            have q0 := MO.out
            simp [opOk, numOk, emp_iff, *]
      · have hl' : (64 : Int) < key.size := by omega
        go_enter Tryz.func42, Tryz.ntmps42
        go_wp2_with fail
        refine (K1'.out false KO.out _).mono ?_
        rintro e w' ⟨rfl, rfl⟩
        go_wp2_with fail
        all_goals
          go_ret
          refine ⟨?_, by repeat (first | exact Below.refl _ _ | refine Below.alloc ?_ (by simp) _ | refine Below.drew ?_)⟩
          rw [← R.out]
          have hl0 : ¬ (key.size : Int) ≤ 64 := by omega
          simp [opOk, numOk, emp_iff, *]
    | true =>
      have KO := Asd.mk hko
      clear hko
      by_cases hl : (key.size : Int) ≤ 64
      · cases hmo : (decide (1 ≤ most) && decide (most ≤ 100)) with
        | false =>
          have MO := Asd.mk hmo
          clear hmo
          go_enter Tryz.func42, Tryz.ntmps42
          go_wp2_with fail
          refine (K1'.out true KO.out _).mono ?_
          rintro e w' ⟨rfl, rfl⟩
          go_wp2_with fail
          refine (op_in _ _ _ _).mono ?_
          rintro e w' ⟨rfl, rfl⟩
          go_wp2_with fail
          refine (I1'.out _ _ _ false MO.out _).mono ?_
          rintro e w' ⟨rfl, rfl⟩
          go_wp2_with fail
          all_goals
            go_ret
            refine ⟨?_, by repeat (first | exact Below.refl _ _ | refine Below.alloc ?_ (by simp) _ | refine Below.drew ?_)⟩
            rw [← R.out]
            have q0 := MO.out
            simp [opOk, numOk, emp_iff, *]
        | true =>
          have MO := Asd.mk hmo
          clear hmo
          go_enter Tryz.func42, Tryz.ntmps42
          go_wp2_with fail
          refine (K1'.out true KO.out _).mono ?_
          rintro e w' ⟨rfl, rfl⟩
          go_wp2_with fail
          refine (op_in _ _ _ _).mono ?_
          rintro e w' ⟨rfl, rfl⟩
          go_wp2_with fail
          refine (I1'.out _ _ _ true MO.out _).mono ?_
          rintro e w' ⟨rfl, rfl⟩
          go_wp2_with fail
          all_goals
            go_ret
            refine ⟨?_, by repeat (first | exact Below.refl _ _ | refine Below.alloc ?_ (by simp) _ | refine Below.drew ?_)⟩
            rw [← R.out]
            have q0 := MO.out
            simp [opOk, numOk, emp_iff, *]
      · have hl' : (64 : Int) < key.size := by omega
        go_enter Tryz.func42, Tryz.ntmps42
        go_wp2_with fail
        refine (K1'.out true KO.out _).mono ?_
        rintro e w' ⟨rfl, rfl⟩
        go_wp2_with fail
        refine (op_in _ _ _ _).mono ?_
        rintro e w' ⟨rfl, rfl⟩
        go_wp2_with fail
        all_goals
          go_ret
          refine ⟨?_, by repeat (first | exact Below.refl _ _ | refine Below.alloc ?_ (by simp) _ | refine Below.drew ?_)⟩
          rw [← R.out]
          have hl0 : ¬ (key.size : Int) ≤ 64 := by omega
          simp [opOk, numOk, emp_iff, *]
  · cases hko : keyOk key with
    | false =>
      have KO := Asd.mk hko
      clear hko
      go_enter Tryz.func42, Tryz.ntmps42
      go_wp2_with fail
      refine (K1'.out false KO.out _).mono ?_
      rintro e w' ⟨rfl, rfl⟩
      go_wp2_with fail
      all_goals
        go_ret
        refine ⟨?_, by repeat (first | exact Below.refl _ _ | refine Below.alloc ?_ (by simp) _ | refine Below.drew ?_)⟩
        rw [← R.out]
        simp [opOk, numOk, emp_iff, *]
    | true =>
      have KO := Asd.mk hko
      clear hko
      go_enter Tryz.func42, Tryz.ntmps42
      go_wp2_with fail
      refine (K1'.out true KO.out _).mono ?_
      rintro e w' ⟨rfl, rfl⟩
      go_wp2_with fail
      refine (op_in _ _ _ _).mono ?_
      rintro e w' ⟨rfl, rfl⟩
      go_wp2_with fail
      all_goals
        go_ret
        refine ⟨?_, by repeat (first | exact Below.refl _ _ | refine Below.alloc ?_ (by simp) _ | refine Below.drew ?_)⟩
        rw [← R.out]
        simp [opOk, numOk, emp_iff, *]
end Go.Proofs.YtallnibjmffahaaGreatDoor

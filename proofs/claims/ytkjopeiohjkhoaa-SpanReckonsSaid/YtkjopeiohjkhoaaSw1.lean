/- span.Check, wrong; cmp.Or of two; the ends' order. -/
import Derived.Test.YtkjopeiohjkhoaaSp
set_option linter.unusedVariables false
set_option linter.unusedSimpArgs false
namespace Go.Proofs.Ytkjopeiohjkhoaa
open Go.RowKit

def spOk (s : SpanR) : Bool := decide ((s.from_.size : Int) ≤ 64) && decide ((s.to_.size : Int) ≤ 64) && (decide (s.to_.size = 0) || decide (klt s.from_ s.to_))
theorem spOk_iff (s : SpanR) : spOk s = true ↔ s.from_.size ≤ 64 ∧ s.to_.size ≤ 64 ∧ OkS s := by
  unfold spOk OkS
  rw [Bool.and_eq_true, Bool.and_eq_true, Bool.or_eq_true, decide_eq_true_iff, decide_eq_true_iff, decide_eq_true_iff, decide_eq_true_iff]
  constructor
  · rintro ⟨⟨h1, h2⟩, h3⟩; exact ⟨by omega, by omega, h3⟩
  · rintro ⟨h1, h2, h3⟩; exact ⟨⟨by omega, by omega⟩, h3⟩
def chkP (s : SpanR) : Int := if spOk s then 0 else 50

set_option maxHeartbeats 4000000 in
theorem SpanCheck_calls (s : SpanR) (w : World) :
    Calls Try.prog 22 #[.agg s.enc.toArray] w fun e w' => e = .returned (.int .i64 (chkP s)) ∧ Below w.heap.size w w' := by
  by_cases hok : spOk s = true
  · have h := (spOk_iff s).1 hok
    have := SpanCheck_ok s h.1 h.2.1 h.2.2 w
    unfold chkP
    rw [if_pos hok]
    exact this
  · have hc : chkP s = 50 := by unfold chkP; rw [if_neg hok]
    rw [hc]
    obtain ⟨f, t⟩ := s
    unfold SpanR.enc
    simp only
    by_cases g1 : (64 : Int) < (f.size : Int)
    · clear hok hc
      go_enter Try.func22, Try.ntmps22
      go_wp2
      all_goals
        go_ret
        exact ⟨rfl, (Below.refl _ _).alloc (Nat.le_refl _) _⟩
    · by_cases g2 : (64 : Int) < (t.size : Int)
      · clear hok hc
        go_enter Try.func22, Try.ntmps22
        go_wp2
        all_goals
          go_ret
          exact ⟨rfl, (Below.refl _ _).alloc (Nat.le_refl _) _⟩
      · have hn : ¬ OkS ⟨f, t⟩ := fun h => hok ((spOk_iff _).2 ⟨by simp only; omega, by simp only; omega, h⟩)
        have hz : t.size ≠ 0 := fun e => hn (.inl e)
        have hlt : ¬ klt f t := fun e => hn (.inr e)
        have htl : ¬ t.toList = [] := by rw [tl_nil]; exact hz
        have hie : t.toList.isEmpty = false := by rw [empty_eq]; exact decide_eq_false hz
        have hte : ¬ t = ByteArray.empty := by rw [emp_iff]; exact htl
        rcases not_klt hlt with he | hgt
        · subst he
          clear hok hc hn hlt hz
          have h1 : Op.bytesLess f.toList f.toList = false := by rw [less_eq]; exact decide_eq_false (klt_irrefl _)
          go_enter Try.func22, Try.ntmps22
          go_wp2
          all_goals
            go_ret
            exact ⟨rfl, (Below.refl _ _).alloc (Nat.le_refl _) _⟩
        · have h1 : Op.bytesLess t.toList f.toList = true := by rw [less_eq]; exact decide_eq_true hgt
          clear hok hc hn hlt hz hgt
          go_enter Try.func22, Try.ntmps22
          go_wp2
          all_goals
            go_ret
            exact ⟨rfl, (Below.refl _ _).alloc (Nat.le_refl _) _⟩

theorem wrong1_calls (s : SpanR) (w : World) :
    Calls Try.prog 43 #[.agg s.enc.toArray] w fun e w' => e = .returned (.bool (!spOk s)) ∧ Below w.heap.size w w' := by
  have hal : Below w.heap.size w (w.alloc (.cells #[.string s.from_, .string s.to_] 35)) := (Below.refl _ _).alloc (Nat.le_refl _) _
  have hc := SpanCheck_calls s (w.alloc (.cells #[.string s.from_, .string s.to_] 35))
  have HC := Asd.mk hc
  have AL := Asd.mk hal
  have hb : (chkP s != 0) = !spOk s := by unfold chkP; cases spOk s <;> rfl
  have hb' : ((chkP s == 0) = true) = (spOk s = true) := by unfold chkP; cases spOk s <;> simp
  have HB := Asd.mk hb
  have HB' := Asd.mk hb'
  clear hc hal hb hb'
  unfold SpanR.enc at *
  generalize chkP s = v at *
  go_enter Try.func43, Try.ntmps43
  go_wp2_with fail
  refine HC.out.mono ?_
  rintro e w' ⟨rfl, hb⟩
  have B1 := Asd.mk (AL.out.trans (hb.mono (by simp)))
  clear hb
  go_wp2_with fail
  go_ret
  exact ⟨by rw [← HB.out]; rfl, B1.out⟩

theorem ContainsFunc_gen {base : Nat} {T : TypeId} (p : SpanR → Bool) (g : Nat) (cb : Array Value) (eg : ∀ args w, (callFunc g args).run Try.prog w = .ok (.enter g args) w) (w : World)
    (A : Option Addr) (n c : Nat) (l : List SpanR) (hr : Rd base T w 2 A n c (sCells l)) (hbig : n ≤ 140737488355328)
    (hp : ∀ (W : World), Below w.heap.size w W → ∀ (x : SpanR), x ∈ l → Calls Try.prog g (#[.agg x.enc.toArray] ++ cb) W fun e w' => e = .returned (.bool (p x)) ∧ Below W.heap.size W w') :
    Calls Try.prog 33 #[.slice A n c, .func (.func g) #[] cb] w fun e w' => e = .returned (.bool (l.any p)) ∧ Below w.heap.size w w' := by
  have hi := IndexFunc_span (base := base) (T := T) p g cb eg w A n c l hr hbig hp
  have hv : (0 ≤ fidx p l) ↔ (l.any p) = true := by
    unfold fidx
    cases h : l.any p with
    | true => simp
    | false => simp
  clear hr hp eg
  cases h : l.any p with
  | true =>
    have h0 := hv.2 h
    have I := Asd.mk hi
    clear hi hv h
    generalize fidx p l = v at *
    go_enter Try.func33, Try.ntmps33
    go_wp2_with fail
    refine I.out.mono ?_
    rintro e w' ⟨rfl, hb⟩
    go_wp2_with fail
    go_ret
    exact ⟨rfl, hb⟩
  | false =>
    have h0 : ¬ 0 ≤ fidx p l := fun e => by rw [hv.1 e] at h; cases h
    have I := Asd.mk hi
    clear hi hv h
    generalize fidx p l = v at *
    go_enter Try.func33, Try.ntmps33
    go_wp2_with fail
    refine I.out.mono ?_
    rintro e w' ⟨rfl, hb⟩
    go_wp2_with fail
    go_ret
    exact ⟨by rw [decide_eq_false (by omega)]; rfl, hb⟩

def swrong (l : List SpanR) : Int := if 4096 < l.length then 2 else if l.any (fun s => !spOk s) then 50 else 0
theorem swrong_ok {l : List SpanR} (h : swrong l = 0) : l.length ≤ 4096 ∧ ∀ s ∈ l, spOk s = true := by
  unfold swrong at h
  by_cases h1 : 4096 < l.length
  · rw [if_pos h1] at h; omega
  · rw [if_neg h1] at h
    refine ⟨by omega, fun s hs => ?_⟩
    cases h2 : l.any (fun s => !spOk s) with
    | true => rw [h2] at h; simp at h
    | false =>
      have := List.any_eq_false.1 h2 s hs
      simpa using this
theorem swrong_of {l : List SpanR} (h1 : l.length ≤ 4096) (h2 : ∀ s ∈ l, spOk s = true) : swrong l = 0 := by
  unfold swrong
  rw [if_neg (by omega), if_neg]
  rw [List.any_eq_true]
  rintro ⟨s, hs, h3⟩
  rw [h2 s hs] at h3
  cases h3
theorem swrong_calls {base : Nat} {w : World} {A : Option Addr} {n c : Nat} {l : List SpanR} (hr : Rd base 35 w 2 A n c (sCells l)) :
    Calls Try.prog 36 #[.slice A n c] w fun e w' => e = .returned (.int .i64 (swrong l)) ∧ Below w.heap.size w w' := by
  have hn := hr.count (enc := SpanR.enc) (fun _ => rfl) (by omega)
  by_cases hl : (4096 : Int) < (n : Int)
  · have hs : swrong l = 2 := by unfold swrong; rw [if_pos (by omega)]
    rw [hs]
    clear hs hn hr
    go_enter Try.func36, Try.ntmps36
    go_wp2_with fail
    go_ret
    exact ⟨rfl, Below.refl _ _⟩
  · have hcf := ContainsFunc_gen (fun s => !spOk s) 43 #[] (enters_of Try.func43 (by kernel_rfl) rfl) w A n c l hr (by omega) (fun W _ x _ => wrong1_calls x W)
    have hs : swrong l = if l.any (fun s => !spOk s) then 50 else 0 := by unfold swrong; rw [if_neg (by omega)]
    rw [hs]
    clear hs hn hr
    have I := Asd.mk hcf
    clear hcf
    generalize l.any (fun s => !spOk s) = b at *
    cases b with
    | true =>
      go_enter Try.func36, Try.ntmps36
      go_wp2_with fail
      refine I.out.mono ?_
      rintro e w' ⟨rfl, hb⟩
      go_wp2_with fail
      go_ret
      exact ⟨rfl, hb⟩
    | false =>
      go_enter Try.func36, Try.ntmps36
      go_wp2_with fail
      refine I.out.mono ?_
      rintro e w' ⟨rfl, hb⟩
      go_wp2_with fail
      go_ret
      exact ⟨rfl, hb⟩

theorem isNaN_calls (x : ByteArray) (w : World) : Calls Try.prog 46 #[.string x] w fun e w' => e = .returned (.bool false) ∧ w' = w := by
  go_enter Try.func46, Try.ntmps46
  go_wp2
  go_ret
  exact ⟨rfl, rfl⟩
theorem Compare_calls (x y : ByteArray) (w : World) : Calls Try.prog 39 #[.string x, .string y] w fun e w' => e = .returned (.int .i64 (Lib.compareBytes x.data.toList y.data.toList)) ∧ w' = w := by
  have h1 := less_eq x y
  have h2 := less_eq y x
  rcases klt_tri x y with h | h | h
  · have hc : Lib.compareBytes x.data.toList y.data.toList = -1 := by
      rw [compare_spec, if_pos (show x.data.toList < y.data.toList from h)]
    rw [hc]
    rw [decide_eq_true h] at h1
    rw [decide_eq_false (klt_asymm h)] at h2
    clear h hc
    go_enter Try.func39, Try.ntmps39
    go_wp2_with (go_at_call 46; refine (isNaN_calls _ _).mono ?_; rintro e w' ⟨rfl, rfl⟩)
    go_ret
    exact ⟨rfl, rfl⟩
  · subst h
    have hc : Lib.compareBytes x.data.toList x.data.toList = 0 := by rw [cmp_zero]
    rw [hc]
    rw [decide_eq_false (klt_irrefl _)] at h1
    clear h2 hc
    go_enter Try.func39, Try.ntmps39
    go_wp2_with (go_at_call 46; refine (isNaN_calls _ _).mono ?_; rintro e w' ⟨rfl, rfl⟩)
    go_ret
    exact ⟨rfl, rfl⟩
  · have hc : Lib.compareBytes x.data.toList y.data.toList = 1 := by
      rw [compare_spec, if_neg (show ¬ x.data.toList < y.data.toList from klt_asymm h), if_pos (show y.data.toList < x.data.toList from h)]
    rw [hc]
    rw [decide_eq_false (klt_asymm h)] at h1
    rw [decide_eq_true h] at h2
    have h3 : (x.toList == y.toList) = false := by rw [same_eq]; exact decide_eq_false (fun e => klt_ne h e.symm)
    clear h hc
    go_enter Try.func39, Try.ntmps39
    go_wp2_with (go_at_call 46; refine (isNaN_calls _ _).mono ?_; rintro e w' ⟨rfl, rfl⟩)
    go_ret
    exact ⟨rfl, rfl⟩
/-- cmp.Or of two. -/
theorem Or2_calls (x y : Int) (w : World) (b : Nat) (h0 : w.cell? ⟨b, 0, none⟩ = some (.int .i64 x)) (h1 : w.cell? ⟨b, 1, none⟩ = some (.int .i64 y)) :
    Calls Try.prog 35 #[.slice (some ⟨b, 0, none⟩) 2 2] w fun e w' => e = .returned (.int .i64 (if x = 0 then y else x)) ∧ Below w.heap.size w w' := by
  by_cases hx : x = 0
  · subst hx
    rw [if_pos rfl]
    by_cases hy : y = 0
    · subst hy
      go_enter Try.func35, Try.ntmps35
      go_wp2_with fail
      go_loopw [5, 8] (fun _ s8 wr => ∃ k : Nat, s8 = .int .i64 k ∧ k ≤ 2 ∧ Asd (wr = w)) (fun _ s8 _ => 2 - (intOf s8).toNat)
      case atStart => exact ⟨0, rfl, by omega, ⟨by simp⟩⟩
      case round =>
        obtain ⟨k, rfl, hk, hwr⟩ := hrel
        obtain rfl := hwr.out
        by_cases hk0 : k = 0
        · subst hk0
          go_wp2_with fail
          go_roundw
          case measure => simp [intOf]
          case rel => exact ⟨1, by go_num, by omega, ⟨by simp⟩⟩
        · by_cases hk1 : k = 1
          · subst hk1
            go_wp2_with fail
            go_roundw
            case measure => simp [intOf]
            case rel => exact ⟨2, by go_num, by omega, ⟨by simp⟩⟩
          · obtain rfl : k = 2 := by omega
            go_wp2_with fail
            go_ret
            exact ⟨rfl, Below.refl _ _⟩
    · have hy' : (y == 0) = false := by simpa using hy
      have hy2 : (y != 0) = true := by simpa using hy
      go_enter Try.func35, Try.ntmps35
      go_wp2_with fail
      go_loopw [5, 8] (fun _ s8 wr => ∃ k : Nat, s8 = .int .i64 k ∧ k ≤ 1 ∧ Asd (wr = w)) (fun _ s8 _ => 2 - (intOf s8).toNat)
      case atStart => exact ⟨0, rfl, by omega, ⟨by simp⟩⟩
      case round =>
        obtain ⟨k, rfl, hk, hwr⟩ := hrel
        obtain rfl := hwr.out
        by_cases hk0 : k = 0
        · subst hk0
          go_wp2_with fail
          go_roundw
          case measure => simp [intOf]
          case rel => exact ⟨1, by go_num, by omega, ⟨by simp⟩⟩
        · obtain rfl : k = 1 := by omega
          go_wp2_with fail
          go_ret
          exact ⟨rfl, Below.refl _ _⟩
  · rw [if_neg hx]
    have hx' : (x == 0) = false := by simpa using hx
    have hx2 : (x != 0) = true := by simpa using hx
    go_enter Try.func35, Try.ntmps35
    go_wp2_with fail
    go_loopw [5, 8] (fun _ s8 wr => s8 = .int .i64 0 ∧ Asd (wr = w)) (fun _ s8 _ => 2 - (intOf s8).toNat)
    case atStart => exact ⟨rfl, ⟨by simp⟩⟩
    case round =>
      obtain ⟨rfl, hwr⟩ := hrel
      obtain rfl := hwr.out
      go_wp2_with fail
      go_ret
      exact ⟨rfl, Below.refl _ _⟩
theorem two_errs (w : World) (x y : Int) : (w.alloc (.cells #[.int .i64 x, .int .i64 y] 25)).cell? ⟨w.heap.size, 0, none⟩ = some (.int .i64 x) ∧ (w.alloc (.cells #[.int .i64 x, .int .i64 y] 25)).cell? ⟨w.heap.size, 1, none⟩ = some (.int .i64 y) :=
  ⟨(cell_of_row _ _ 0 _ _ _ (heap_alloc_new w _)).trans rfl, (cell_of_row _ _ 1 _ _ _ (heap_alloc_new w _)).trans rfl⟩

end Go.Proofs.Ytkjopeiohjkhoaa

/- span.Has, span.Check. -/
import Derived.Test.YtgiajfgeplekbaaD11
import Derived.Laws.Cover1
set_option linter.unusedVariables false
set_option linter.unusedSimpArgs false
namespace Go.Proofs.Ytgiajfgeplekbaa
open Go.RowKit

set_option maxHeartbeats 1000000 in
/-- slices.IndexFunc over spans. -/
theorem IndexFunc_span {base : Nat} {T : TypeId} (p : SpanR → Bool) (g : Nat) (kb : Value) (eg : ∀ args w, (callFunc g args).run Try.prog w = .ok (.enter g args) w) (w : World)
    (A : Option Addr) (n c : Nat) (l : List SpanR) (hr : Rd base T w 2 A n c (sCells l)) (hbig : n ≤ 140737488355328)
    (hp : ∀ (W : World), Below w.heap.size w W → ∀ (x : SpanR), x ∈ l → Calls Try.prog g #[.agg x.enc.toArray, kb] W fun e w' => e = .returned (.bool (p x)) ∧ Below W.heap.size W w') :
    Calls Try.prog 55 #[.slice A n c, .func (.func g) #[] #[kb]] w fun e w' => e = .returned (.int .i64 (fidx p l)) ∧ Below w.heap.size w w' := by
  have hn := hr.count (enc := SpanR.enc) (fun _ => rfl) (by omega)
  have R := Asd.mk hr
  have C := Asd.mk hp
  have N := Asd.mk hn
  clear hr hp hn
  go_enter Try.func55, Try.ntmps55
  go_wp2
  go_loopw [5, 8] (fun _ s8 wr => ∃ k : Nat, s8 = .int .i64 k ∧ k ≤ n ∧ Asd (Below w.heap.size w wr) ∧ Asd (∀ j (hj : j < l.length), j < k → p l[j] = false)) (fun _ s8 _ => n - (intOf s8).toNat)
  case atStart => exact ⟨0, rfl, Nat.zero_le _, ⟨Below.refl _ _⟩, ⟨fun j _ h => absurd h (Nat.not_lt_zero _)⟩⟩
  case round =>
    obtain ⟨k, rfl, hkn, BW, I⟩ := hrel
    by_cases hlt : k < n
    · obtain ⟨b, off, rfl, hb, hl, hcs⟩ := (R.out.below BW.out).at_enc (enc := SpanR.enc) (fun _ => rfl) (by omega) hlt
      have hc := C.out wr BW.out l[k] (List.getElem_mem hl)
      generalize hy : l[k] = y at hcs hc
      have c0 := hcs 0 _ rfl
      have c1 := hcs 1 _ rfl
      rw [Nat.add_zero] at c0
      unfold SpanR.enc at hc
      clear hcs
      have Y := Asd.mk hy
      clear hy
      cases hq : p y with
      | true =>
        rw [hq] at hc
        have Q := Asd.mk hq
        clear hq
        go_wp2_with fail
        refine hc.mono ?_
        rintro e w' ⟨rfl, hb'⟩
        go_wp2_with fail
        go_ret
        exact ⟨by rw [fidx_hit p l k hl (by rw [Y.out]; exact Q.out) I.out]; rfl, BW.out.trans (hb'.mono BW.out.size)⟩
      | false =>
        rw [hq] at hc
        have Q := Asd.mk hq
        clear hq
        go_wp2_with fail
        refine hc.mono ?_
        rintro e w' ⟨rfl, hb'⟩
        go_wp2_with fail
        go_roundw
        case measure => simp [intOf]; omega
        case rel =>
          refine ⟨k + 1, by go_num, by omega, ⟨BW.out.trans (hb'.mono BW.out.size)⟩, ⟨fun j hj hjk => ?_⟩⟩
          rcases Nat.lt_or_ge j k with h1 | h1
          · exact I.out j hj h1
          · obtain rfl : j = k := by omega
            rw [Y.out]; exact Q.out
    · go_wp2_with fail
      go_ret
      exact ⟨by rw [fidx_miss p l fun j hj => I.out j hj (by have := N.out; omega)]; rfl, BW.out⟩



def hasP (key : ByteArray) (s : SpanR) : Bool := !decide (klt key s.from_) && (decide (s.to_.size = 0) || decide (klt key s.to_))
set_option maxHeartbeats 2000000 in
theorem Has1_calls (kb : Nat) (key : ByteArray) (w : World) (hk : w.cell? ⟨kb, 0, none⟩ = some (.string key)) (hkl : kb < w.heap.size) (s : SpanR) :
    Calls Try.prog 38 #[.agg s.enc.toArray, .pointer (some ⟨kb, 0, none⟩)] w fun e w' => e = .returned (.bool (hasP key s)) ∧ Below w.heap.size w w' := by
  obtain ⟨f, t⟩ := s
  unfold SpanR.enc hasP
  simp only
  have h1 := less_eq key f
  have h2 := less_eq key t
  by_cases hf : klt key f
  · rw [decide_eq_true hf] at h1 ⊢
    clear h2 hf
    go_enter Try.func38, Try.ntmps38
    go_wp2
    go_ret
    exact ⟨rfl, (Below.refl _ _).alloc (Nat.le_refl _) _⟩
  · rw [decide_eq_false hf] at h1 ⊢
    clear hf
    by_cases ht : t.size = 0
    · have htl : t.toList = [] := by rw [tl_nil]; exact ht
      rw [decide_eq_true ht]
      clear h2 ht
      go_enter Try.func38, Try.ntmps38
      go_wp2
      go_ret
      exact ⟨rfl, (Below.refl _ _).alloc (Nat.le_refl _) _⟩
    · have htl : ¬ t.toList = [] := by rw [tl_nil]; exact ht
      have hte : ¬ t = ByteArray.empty := by rw [emp_iff]; exact htl
      have hie : t.toList.isEmpty = false := by rw [empty_eq]; exact decide_eq_false ht
      rw [decide_eq_false ht]
      clear ht
      by_cases hl : klt key t
      · rw [decide_eq_true hl] at h2 ⊢
        clear hl
        go_enter Try.func38, Try.ntmps38
        go_wp2
        go_ret
        exact ⟨rfl, (Below.refl _ _).alloc (Nat.le_refl _) _⟩
      · rw [decide_eq_false hl] at h2 ⊢
        clear hl
        go_enter Try.func38, Try.ntmps38
        go_wp2
        go_ret
        exact ⟨rfl, (Below.refl _ _).alloc (Nat.le_refl _) _⟩

theorem ContainsFunc_span {base : Nat} {T : TypeId} (kb : Nat) (key : ByteArray) (w : World) (hk : w.cell? ⟨kb, 0, none⟩ = some (.string key)) (hkl : kb < w.heap.size) (A : Option Addr) (n c : Nat) (l : List SpanR) (hr : Rd base T w 2 A n c (sCells l)) (hbig : n ≤ 140737488355328) :
    Calls Try.prog 37 #[.slice A n c, .func (.func 38) #[] #[.pointer (some ⟨kb, 0, none⟩)]] w fun e w' => e = .returned (.bool (l.any (hasP key))) ∧ Below w.heap.size w w' := by
  have hi := IndexFunc_span (base := base) (T := T) (hasP key) 38 (.pointer (some ⟨kb, 0, none⟩)) (enters_of Try.func38 (by kernel_rfl) rfl) w A n c l hr hbig (fun W hB s _ => Has1_calls kb key W ((hB.cell (p := ⟨kb, 0, none⟩) hkl).trans hk) (Nat.lt_of_lt_of_le hkl hB.size) s)
  have hv : (0 ≤ fidx (hasP key) l) ↔ (l.any (hasP key)) = true := by
    unfold fidx
    cases h : l.any (hasP key) with
    | true => simp
    | false => simp
  cases h : l.any (hasP key) with
  | true =>
    have h0 := hv.2 h
    have I := Asd.mk hi
    clear hi hv h
    generalize fidx (hasP key) l = v at *
    go_enter Try.func37, Try.ntmps37
    go_wp2_with fail
    refine I.out.mono ?_
    rintro e w' ⟨rfl, hb⟩
    go_wp2_with fail
    go_ret
    exact ⟨rfl, hb⟩
  | false =>
    have h0 : ¬ 0 ≤ fidx (hasP key) l := fun e => by rw [hv.1 e] at h; cases h
    have I := Asd.mk hi
    clear hi hv h
    generalize fidx (hasP key) l = v at *
    go_enter Try.func37, Try.ntmps37
    go_wp2_with fail
    refine I.out.mono ?_
    rintro e w' ⟨rfl, hb⟩
    go_wp2_with fail
    go_ret
    exact ⟨by rw [decide_eq_false (by omega)]; rfl, hb⟩
theorem Has_calls {base : Nat} {w : World} {A : Option Addr} {n c : Nat} {l : List SpanR} (hr : Rd base 39 w 2 A n c (sCells l)) (hbig : n ≤ 140737488355328) (key : ByteArray) :
    Calls Try.prog 15 #[.slice A n c, .string key] w fun e w' => e = .returned (.bool (l.any (hasP key))) ∧ Below w.heap.size w w' := by
  have hal : Below w.heap.size w (w.alloc (.cells #[.string key] 9)) := (Below.refl _ _).alloc (Nat.le_refl _) _
  have hcf := ContainsFunc_span (base := base) (T := 39) w.heap.size key (w.alloc (.cells #[.string key] 9)) ((cell_of_row _ _ 0 _ _ _ (heap_alloc_new w _)).trans rfl) (by simp) A n c l (hr.below hal) hbig
  have CF := Asd.mk hcf
  have AL := Asd.mk hal
  clear hr hcf hal
  go_enter Try.func15, Try.ntmps15
  go_wp2_with fail
  refine CF.out.mono ?_
  rintro e w' ⟨rfl, hb⟩
  have B1 := Asd.mk (AL.out.trans (hb.mono (by simp)))
  clear hb
  go_wp2_with fail
  go_ret
  exact ⟨rfl, B1.out⟩
set_option maxHeartbeats 2000000 in
theorem SpanCheck_ok (s : SpanR) (hf : s.from_.size ≤ 64) (ht : s.to_.size ≤ 64) (h : s.to_.size = 0 ∨ klt s.from_ s.to_) (w : World) :
    Calls Try.prog 16 #[.agg s.enc.toArray] w fun e w' => e = .returned (.int .i64 0) ∧ Below w.heap.size w w' := by
  obtain ⟨f, t⟩ := s
  unfold SpanR.enc
  simp only at hf ht h ⊢
  have g1 : ¬ (64 : Int) < (f.size : Int) := by omega
  have g2 : ¬ (64 : Int) < (t.size : Int) := by omega
  have h1 := less_eq f t
  by_cases hz : t.size = 0
  · have htl : t.toList = [] := by rw [tl_nil]; exact hz
    have hie : t.toList.isEmpty = true := by rw [empty_eq]; exact decide_eq_true hz
    have hte : t = ByteArray.empty := by rw [emp_iff]; exact htl
    subst hte
    clear h1 h hz ht g2 htl hie
    go_enter Try.func16, Try.ntmps16
    go_wp2
    all_goals
      go_ret
      exact ⟨rfl, (Below.refl _ _).alloc (Nat.le_refl _) _⟩
  · have hlt := h.resolve_left hz
    have h1 : Op.bytesLess t.toList f.toList = false := by rw [less_eq]; exact decide_eq_false (klt_asymm hlt)
    have h3 : (t.toList == f.toList) = false := by rw [same_eq]; exact decide_eq_false (fun e => klt_ne hlt e.symm)
    have h4 : ¬ t.toList = f.toList := fun e => by rw [toList_eq, toList_eq] at e; exact klt_ne hlt (key_ext e).symm
    have htl : ¬ t.toList = [] := by rw [tl_nil]; exact hz
    have hie : t.toList.isEmpty = false := by rw [empty_eq]; exact decide_eq_false hz
    have hte : ¬ t = ByteArray.empty := by rw [emp_iff]; exact htl
    clear h hlt hz
    go_enter Try.func16, Try.ntmps16
    go_wp2
    all_goals
      go_ret
      exact ⟨rfl, (Below.refl _ _).alloc (Nat.le_refl _) _⟩

end Go.Proofs.Ytgiajfgeplekbaa

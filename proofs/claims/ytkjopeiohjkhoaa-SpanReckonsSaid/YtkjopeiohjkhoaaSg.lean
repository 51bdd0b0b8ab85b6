/- Span: Check, and the document's May, Check and Has, as callees that lay blocks of their own. -/
import Derived.Test.YtkjopeiohjkhoaaSw1
import Derived.Shelf.SlSortCmp.QuietGrown
set_option linter.unusedVariables false
set_option linter.unusedSimpArgs false
namespace Go.Proofs.Ytkjopeiohjkhoaa
open Go.RowKit Go.Sort

theorem below_grown (w : World) (n : Nat) (os : Array Obj) : Below w.heap.size w (grow (w.drewN n) os) :=
  ⟨rfl, rfl, rfl, by rw [size_grow]; exact Nat.le_add_right _ _, fun k hk => (heap_grow_old _ _ (by exact hk)).trans rfl⟩
theorem gr_below {w w' : World} (h : ∃ q os', w' = grow (w.drewN q) os') : Below w.heap.size w w' := by
  obtain ⟨q, os', rfl⟩ := h
  exact below_grown _ _ _
set_option maxHeartbeats 2000000 in
theorem SpanCheck_okg (s : SpanR) (hf : s.from_.size ≤ 64) (ht : s.to_.size ≤ 64) (h : s.to_.size = 0 ∨ klt s.from_ s.to_) (w : World) :
    Calls Try.prog 22 #[.agg s.enc.toArray] w fun e w' => e = .returned (.int .i64 0) ∧ ∃ q os', w' = grow (w.drewN q) os' := by
  obtain ⟨f, t⟩ := s
  unfold SpanR.enc
  simp only at hf ht h ⊢
  have g1 : ¬ (64 : Int) < (f.size : Int) := by omega
  have g2 : ¬ (64 : Int) < (t.size : Int) := by omega
  have h1 := less_eq f t
  by_cases hz : t.size = 0
  · have htl : t.toList = [] := by rw [tl_nil]; exact hz
    have hie : t.toList.isEmpty = true := by rw [empty_eq]; exact decide_eq_true hz
    have hte : t = ByteArray.empty := by rw [emp_iff]; exact htl
    subst hte
    clear h1 h hz ht g2 htl hie
    go_enter Try.func22, Try.ntmps22
    go_wp2
    all_goals
      go_ret
      exact ⟨rfl, 0, _, by rw [alloc_eq_grow]; rfl⟩
  · have hlt := h.resolve_left hz
    have h1 : Op.bytesLess t.toList f.toList = false := by rw [less_eq]; exact decide_eq_false (klt_asymm hlt)
    have h3 : (t.toList == f.toList) = false := by rw [same_eq]; exact decide_eq_false (fun e => klt_ne hlt e.symm)
    have h4 : ¬ t.toList = f.toList := fun e => by rw [toList_eq, toList_eq] at e; exact klt_ne hlt (key_ext e).symm
    have htl : ¬ t.toList = [] := by rw [tl_nil]; exact hz
    have hie : t.toList.isEmpty = false := by rw [empty_eq]; exact decide_eq_false hz
    have hte : ¬ t = ByteArray.empty := by rw [emp_iff]; exact htl
    clear h hlt hz
    go_enter Try.func22, Try.ntmps22
    go_wp2
    all_goals
      go_ret
      exact ⟨rfl, 0, _, by rw [alloc_eq_grow]; rfl⟩
set_option maxHeartbeats 4000000 in
theorem SpanCheck_g (s : SpanR) (w : World) :
    Calls Try.prog 22 #[.agg s.enc.toArray] w fun e w' => e = .returned (.int .i64 (chkP s)) ∧ ∃ q os', w' = grow (w.drewN q) os' := by
  by_cases hok : spOk s = true
  · have h := (spOk_iff s).1 hok
    have := SpanCheck_okg s h.1 h.2.1 h.2.2 w
    unfold chkP
    rw [if_pos hok]
    exact this
  · have hc : chkP s = 50 := by unfold chkP; rw [if_neg hok]
    rw [hc]
    obtain ⟨f, t⟩ := s
    unfold SpanR.enc
    simp only
    by_cases g1 : (64 : Int) < (f.size : Int)
    · clear hok hc
      go_enter Try.func22, Try.ntmps22
      go_wp2
      all_goals
        go_ret
        exact ⟨rfl, 0, _, by rw [alloc_eq_grow]; rfl⟩
    · by_cases g2 : (64 : Int) < (t.size : Int)
      · clear hok hc
        go_enter Try.func22, Try.ntmps22
        go_wp2
        all_goals
          go_ret
          exact ⟨rfl, 0, _, by rw [alloc_eq_grow]; rfl⟩
      · have hn : ¬ OkS ⟨f, t⟩ := fun h => hok ((spOk_iff _).2 ⟨by simp only; omega, by simp only; omega, h⟩)
        have hz : t.size ≠ 0 := fun e => hn (.inl e)
        have hlt : ¬ klt f t := fun e => hn (.inr e)
        have htl : ¬ t.toList = [] := by rw [tl_nil]; exact hz
        have hie : t.toList.isEmpty = false := by rw [empty_eq]; exact decide_eq_false hz
        have hte : ¬ t = ByteArray.empty := by rw [emp_iff]; exact htl
        rcases not_klt hlt with he | hgt
        · subst he
          clear hok hc hn hlt hz
          have h1 : Op.bytesLess f.toList f.toList = false := by rw [less_eq]; exact decide_eq_false (klt_irrefl _)
          go_enter Try.func22, Try.ntmps22
          go_wp2
          all_goals
            go_ret
            exact ⟨rfl, 0, _, by rw [alloc_eq_grow]; rfl⟩
        · have h1 : Op.bytesLess t.toList f.toList = true := by rw [less_eq]; exact decide_eq_true hgt
          clear hok hc hn hlt hz hgt
          go_enter Try.func22, Try.ntmps22
          go_wp2
          all_goals
            go_ret
            exact ⟨rfl, 0, _, by rw [alloc_eq_grow]; rfl⟩

set_option maxHeartbeats 4000000 in
theorem May_g (s : SpanR) (w : World) :
    Calls Try.prog 32 #[.agg s.enc.toArray] w fun e w' => e = .returned (.bool (spOk s)) ∧ ∃ q os', w' = grow (w.drewN q) os' := by
  obtain ⟨f, t⟩ := s
  unfold SpanR.enc spOk
  simp only
  by_cases g1 : (f.size : Int) ≤ 64
  · rw [decide_eq_true g1]
    by_cases g2 : (t.size : Int) ≤ 64
    · rw [decide_eq_true g2]
      by_cases hz : t.size = 0
      · have htl : t.toList = [] := by rw [tl_nil]; exact hz
        rw [decide_eq_true hz]
        clear hz
        go_enter Try.func32, Try.ntmps32
        go_wp2
        all_goals
          go_ret
          exact ⟨rfl, 0, _, by rw [alloc_eq_grow]; rfl⟩
      · have htl : ¬ t.toList = [] := by rw [tl_nil]; exact hz
        have hte : ¬ t = ByteArray.empty := by rw [emp_iff]; exact htl
        have hie : t.toList.isEmpty = false := by rw [empty_eq]; exact decide_eq_false hz
        rw [decide_eq_false hz]
        have h1 := less_eq f t
        by_cases hl : klt f t
        · rw [decide_eq_true hl] at h1 ⊢
          clear hl hz
          go_enter Try.func32, Try.ntmps32
          go_wp2
          all_goals
            go_ret
            exact ⟨rfl, 0, _, by rw [alloc_eq_grow]; rfl⟩
        · rw [decide_eq_false hl] at h1 ⊢
          clear hl hz
          go_enter Try.func32, Try.ntmps32
          go_wp2
          all_goals
            go_ret
            exact ⟨rfl, 0, _, by rw [alloc_eq_grow]; rfl⟩
    · rw [decide_eq_false g2]
      go_enter Try.func32, Try.ntmps32
      go_wp2
      all_goals
        go_ret
        exact ⟨rfl, 0, _, by rw [alloc_eq_grow]; rfl⟩
  · rw [decide_eq_false g1]
    go_enter Try.func32, Try.ntmps32
    go_wp2
    all_goals
      go_ret
      exact ⟨rfl, 0, _, by rw [alloc_eq_grow]; rfl⟩

set_option maxHeartbeats 2000000 in
theorem RefCheck_g (s : SpanR) (w : World) :
    Calls Try.prog 23 #[.agg s.enc.toArray] w fun e w' => e = .returned (.int .i64 (chkP s)) ∧ ∃ q os', w' = grow (w.drewN q) os' := by
  have hm := fun W => May_g s W
  unfold chkP
  obtain ⟨f, t⟩ := s
  unfold SpanR.enc at hm ⊢
  cases hq : spOk ⟨f, t⟩ with
  | true =>
    rw [hq] at hm
    have M := Asd.mk hm
    clear hm hq
    go_enter Try.func23, Try.ntmps23
    go_wp2_with fail
    refine (M.out _).mono ?_
    rintro e w1 ⟨rfl, q, os', rfl⟩
    go_wp2_with fail
    go_ret
    exact ⟨rfl, q, _, by rw [alloc_eq_grow]; show grow (grow (w.drewN q) _) _ = _; rw [grow_grow]⟩
  | false =>
    rw [hq] at hm
    have M := Asd.mk hm
    clear hm hq
    go_enter Try.func23, Try.ntmps23
    go_wp2_with fail
    refine (M.out _).mono ?_
    rintro e w1 ⟨rfl, q, os', rfl⟩
    go_wp2_with fail
    go_ret
    exact ⟨rfl, q, _, by rw [alloc_eq_grow]; show grow (grow (w.drewN q) _) _ = _; rw [grow_grow]⟩

set_option maxHeartbeats 4000000 in
theorem RefHas_calls {base : Nat} {w : World} {A : Option Addr} {n c : Nat} {l : List SpanR} (hr : Rd base 35 w 2 A n c (sCells l)) (hbig : n ≤ 140737488355328) (key : ByteArray) :
    Calls Try.prog 25 #[.slice A n c, .string key] w fun e w' => e = .returned (.bool (l.any (hasP key))) ∧ w' = w := by
  have hn := hr.count (enc := SpanR.enc) (fun _ => rfl) (by omega)
  have R := Asd.mk hr
  have N := Asd.mk hn
  clear hr hn
  go_enter Try.func25, Try.ntmps25
  go_wp2_with fail
  go_loopw [5] (fun s5 wr => ∃ k : Nat, s5 = .int .i64 k ∧ k ≤ n ∧ Asd (wr = w) ∧ Asd ((l.take k).any (hasP key) = false)) (fun s5 _ => n - (intOf s5).toNat)
  case atStart => exact ⟨0, rfl, Nat.zero_le _, ⟨rfl⟩, ⟨rfl⟩⟩
  case round =>
    obtain ⟨k, rfl, hkn, HW, I⟩ := hrel
    obtain rfl := HW.out
    by_cases hlt : k < n
    · obtain ⟨b, off, rfl, hb, hl, hcs⟩ := R.out.at_enc (enc := SpanR.enc) (fun _ => rfl) (by omega) hlt
      have hcap : k < c := Nat.lt_of_lt_of_le hlt R.out.cap
      have hta : ∀ v, hasP key l[k] = v → (l.take (k + 1)).any (hasP key) = v := fun v hv => by
        rw [List.take_succ_eq_append_getElem hl, List.any_append, I.out, List.any_cons, hv]
        simp
      have hmem := List.getElem_mem hl
      generalize l[k] = y at hcs hta hmem
      have TA := Asd.mk hta
      have ME := Asd.mk hmem
      obtain ⟨f, t⟩ := y
      have c0 : wr.cell? ⟨b, off + k * 2, none⟩ = some (.string f) := hcs 0 _ rfl
      have c1 : wr.cell? ⟨b, off + k * 2 + 1, none⟩ = some (.string t) := hcs 1 _ rfl
      clear hcs hta hmem
      have h1 := less_eq key f
      have h2 := less_eq key t
      by_cases hf : klt key f
      · have VV : Asd (hasP key ⟨f, t⟩ = false) := ⟨by unfold hasP; simp only; rw [decide_eq_true hf]; rfl⟩
        rw [decide_eq_true hf] at h1
        clear h2 hf
        go_wp2_with fail
        go_roundw
        case measure => simp [intOf]; omega
        case rel => exact ⟨k + 1, by go_num, by omega, ⟨by simp⟩, ⟨TA.out _ VV.out⟩⟩
      · rw [decide_eq_false hf] at h1
        by_cases ht : t.size = 0
        · have VV : Asd (hasP key ⟨f, t⟩ = true) := ⟨by unfold hasP; simp only; rw [decide_eq_false hf, decide_eq_true ht]; rfl⟩
          have htl : t.toList = [] := by rw [tl_nil]; exact ht
          clear h2 hf ht
          go_wp2_with fail
          go_ret
          exact ⟨by rw [List.any_eq_true.2 ⟨_, ME.out, VV.out⟩]; rfl, rfl⟩
        · have htl : ¬ t.toList = [] := by rw [tl_nil]; exact ht
          have hte : ¬ t = ByteArray.empty := by rw [emp_iff]; exact htl
          have hie : t.toList.isEmpty = false := by rw [empty_eq]; exact decide_eq_false ht
          by_cases hl2 : klt key t
          · have VV : Asd (hasP key ⟨f, t⟩ = true) := ⟨by unfold hasP; simp only; rw [decide_eq_false hf, decide_eq_false ht, decide_eq_true hl2]; rfl⟩
            rw [decide_eq_true hl2] at h2
            clear hl2 hf ht
            go_wp2_with fail
            go_ret
            exact ⟨by rw [List.any_eq_true.2 ⟨_, ME.out, VV.out⟩]; rfl, rfl⟩
          · have VV : Asd (hasP key ⟨f, t⟩ = false) := ⟨by unfold hasP; simp only; rw [decide_eq_false hf, decide_eq_false ht, decide_eq_false hl2]; rfl⟩
            rw [decide_eq_false hl2] at h2
            clear hl2 hf ht
            go_wp2_with fail
            go_roundw
            case measure => simp [intOf]; omega
            case rel => exact ⟨k + 1, by go_num, by omega, ⟨by simp⟩, ⟨TA.out _ VV.out⟩⟩
    · have hall : l.any (hasP key) = false := by
        have h := I.out
        rwa [List.take_of_length_le (by have := N.out; omega)] at h
      have HALL := Asd.mk hall
      clear hall
      go_wp2_with fail
      go_ret
      exact ⟨by rw [HALL.out]; rfl, rfl⟩
end Go.Proofs.Ytkjopeiohjkhoaa

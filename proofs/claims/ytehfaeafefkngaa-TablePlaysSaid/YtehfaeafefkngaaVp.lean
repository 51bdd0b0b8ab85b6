/- The document's table: the rows of a span, a span dropped, a fork. Rows put one by one, in plain Lean: the document's Take is the program's. -/
import Derived.Test.YtehfaeafefkngaaV8
import Derived.Test.YtehfaeafefkngaaTt4
set_option linter.unusedVariables false
set_option linter.unusedSimpArgs false
namespace Go.Proofs.Ytehfaeafefkngaa
open Go.RowKit

def sCells (l : List SpanR) : List Value := l.flatMap SpanR.enc
def hasP (key : ByteArray) (s : SpanR) : Bool := !decide (klt key s.from_) && (decide (s.to_.size = 0) || decide (klt key s.to_))
theorem has_in (key : ByteArray) (s : SpanR) : hasP key s = true ↔ inSpan key s := by
  unfold hasP inSpan
  simp
set_option maxHeartbeats 4000000 in
theorem RefHas_calls {base : Nat} {w : World} {A : Option Addr} {n c : Nat} {l : List SpanR} (hr : Rd base 46 w 2 A n c (sCells l)) (hbig : n ≤ 140737488355328) (key : ByteArray) :
    Calls Try.prog 62 #[.slice A n c, .string key] w fun e w' => e = .returned (.bool (l.any (hasP key))) ∧ w' = w := by
  have hn := hr.count (enc := SpanR.enc) (fun _ => rfl) (by omega)
  have R := Asd.mk hr
  have N := Asd.mk hn
  clear hr hn
  go_enter Try.func62, Try.ntmps62
  go_wp2_with fail
  go_loopw [5] (fun s5 wr => ∃ k : Nat, s5 = .int .i64 k ∧ k ≤ n ∧ Asd (wr = w) ∧ Asd ((l.take k).any (hasP key) = false)) (fun s5 _ => n - (intOf s5).toNat)
  case atStart => exact ⟨0, rfl, Nat.zero_le _, ⟨rfl⟩, ⟨rfl⟩⟩
  case round =>
    obtain ⟨k, rfl, hkn, HW, I⟩ := hrel
    obtain rfl := HW.out
    by_cases hlt : k < n
    · obtain ⟨b, off, rfl, hb, hl, hcs⟩ := R.out.at_enc (enc := SpanR.enc) (fun _ => rfl) (by omega) hlt
      have hcap : k < c := Nat.lt_of_lt_of_le hlt R.out.cap
      have hta : ∀ v, hasP key l[k] = v → (l.take (k + 1)).any (hasP key) = v := fun v hv => by
        rw [List.take_succ_eq_append_getElem hl, List.any_append, I.out, List.any_cons, hv]
        simp
      have hmem := List.getElem_mem hl
      generalize l[k] = y at hcs hta hmem
      have TA := Asd.mk hta
      have ME := Asd.mk hmem
      obtain ⟨f, t⟩ := y
      have c0 : wr.cell? ⟨b, off + k * 2, none⟩ = some (.string f) := hcs 0 _ rfl
      have c1 : wr.cell? ⟨b, off + k * 2 + 1, none⟩ = some (.string t) := hcs 1 _ rfl
      clear hcs hta hmem
      have h1 := less_eq key f
      have h2 := less_eq key t
      by_cases hf : klt key f
      · have VV : Asd (hasP key ⟨f, t⟩ = false) := ⟨by unfold hasP; simp only; rw [decide_eq_true hf]; rfl⟩
        rw [decide_eq_true hf] at h1
        clear h2 hf
        go_wp2_with fail
        go_roundw
        case measure => simp [intOf]; omega
        case rel => exact ⟨k + 1, by go_num, by omega, ⟨by simp⟩, ⟨TA.out _ VV.out⟩⟩
      · rw [decide_eq_false hf] at h1
        by_cases ht : t.size = 0
        · have VV : Asd (hasP key ⟨f, t⟩ = true) := ⟨by unfold hasP; simp only; rw [decide_eq_false hf, decide_eq_true ht]; rfl⟩
          have htl : t.toList = [] := by rw [tl_nil]; exact ht
          clear h2 hf ht
          go_wp2_with fail
          go_ret
          exact ⟨by rw [List.any_eq_true.2 ⟨_, ME.out, VV.out⟩]; rfl, rfl⟩
        · have htl : ¬ t.toList = [] := by rw [tl_nil]; exact ht
          have hte : ¬ t = ByteArray.empty := by rw [emp_iff]; exact htl
          have hie : t.toList.isEmpty = false := by rw [empty_eq]; exact decide_eq_false ht
          by_cases hl2 : klt key t
          · have VV : Asd (hasP key ⟨f, t⟩ = true) := ⟨by unfold hasP; simp only; rw [decide_eq_false hf, decide_eq_false ht, decide_eq_true hl2]; rfl⟩
            rw [decide_eq_true hl2] at h2
            clear hl2 hf ht
            go_wp2_with fail
            go_ret
            exact ⟨by rw [List.any_eq_true.2 ⟨_, ME.out, VV.out⟩]; rfl, rfl⟩
          · have VV : Asd (hasP key ⟨f, t⟩ = false) := ⟨by unfold hasP; simp only; rw [decide_eq_false hf, decide_eq_false ht, decide_eq_false hl2]; rfl⟩
            rw [decide_eq_false hl2] at h2
            clear hl2 hf ht
            go_wp2_with fail
            go_roundw
            case measure => simp [intOf]; omega
            case rel => exact ⟨k + 1, by go_num, by omega, ⟨by simp⟩, ⟨TA.out _ VV.out⟩⟩
    · have hall : l.any (hasP key) = false := by
        have h := I.out
        rwa [List.take_of_length_le (by have := N.out; omega)] at h
      have HALL := Asd.mk hall
      clear hall
      go_wp2_with fail
      go_ret
      exact ⟨by rw [HALL.out]; rfl, rfl⟩

def RDropPost (base : Nat) (w : World) (A : Option Addr) (g : Nat) (l' : List Rw) (v : Int) (e : Ending) (w' : World) : Prop := e = .returned (.int .i64 v) ∧ w.grownBy w' (some g) ∧ ∃ A' c', RTab base w' g l' A' c' ∧ Fr w A A'
theorem Rd.newb {base n k blk : Nat} {T : TypeId} {w : World} {xs : List Value} {cs : Array Value} (hb : blk = w.heap.size) (hc : cs.toList = xs) (hl : xs.length = n * k) : Rd base T (w.alloc (.cells cs T)) k (some ⟨blk, 0, none⟩) n n xs := by
  subst hb
  exact Rd.new_ hc hl
theorem rowsP_filter {l : List Rw} (h : Sorted l) (s : SpanR) : rowsP l s = l.filter fun r => hasP r.key s := by
  refine sorted_ext (rowsP_sorted h s) (List.Pairwise.sublist List.filter_sublist h) fun r => ?_
  rw [mem_rowsP h, List.mem_filter, has_in]
theorem dropP_filter {l : List Rw} (h : Sorted l) (s : SpanR) : dropP l s = l.filter fun r => !hasP r.key s := by
  refine sorted_ext (dropP_sorted h s) (List.Pairwise.sublist List.filter_sublist h) fun r => ?_
  rw [mem_dropP h, List.mem_filter, ← has_in]
  simp
theorem filter_take_succ (p : Rw → Bool) (l : List Rw) {k : Nat} (hk : k < l.length) : (l.take (k + 1)).filter p = (l.take k).filter p ++ (if p l[k] = true then [l[k]] else []) := by
  rw [List.take_succ_eq_append_getElem hk, List.filter_append]
  congr 1
  by_cases h : p l[k] = true <;> simp [h]

set_option maxHeartbeats 8000000 in
set_option maxRecDepth 100000 in
theorem RRows_calls {base g c : Nat} {w : World} {l : List Rw} {A : Option Addr} (h : RTab base w g l A c) (s : SpanR) :
    Calls Try.prog 48 #[.pointer (some ⟨g, 0, none⟩), .agg s.enc.toArray] w fun e w' => ∃ P n c', e = .returned (.slice P n c') ∧ Below w.heap.size w w' ∧ w'.ownsRow w.heap.size 53 3 (.slice P n c') n (rowCells (rowsP l s)) := by
  have H := Asd.mk h
  have hbig := h.big
  have hgl := h.lt
  have hbs : base ≤ w.heap.size := by have := h.ge; omega
  have RF : Asd (rowsP l s = l.filter fun r => hasP r.key s) := ⟨rowsP_filter h.srt s⟩
  have DF : Asd (dropP l s = l.filter fun r => !hasP r.key s) := ⟨dropP_filter h.srt s⟩
  have DL : Asd ((dropP l s).length + ((endsP l s).2 - (endsP l s).1) = l.length) := ⟨dropP_len l s⟩
  have DS : Asd (Sorted (dropP l s)) := ⟨dropP_sorted h.srt s⟩
  clear h
  obtain ⟨f, t⟩ := s
  unfold SpanR.enc
  have hal : Below w.heap.size w (w.alloc (.cells #[.string f, .string t] 46)) := (Below.refl _ _).alloc (Nat.le_refl _) _
  have BX : Asd ((w.alloc (.cells #[.string f, .string t] 46)).cell? ⟨w.heap.size, 0, none⟩ = some (.string f) ∧ (w.alloc (.cells #[.string f, .string t] 46)).cell? ⟨w.heap.size, 1, none⟩ = some (.string t)) := ⟨(cell_of_row _ _ 0 _ _ _ (heap_alloc_new w _)).trans rfl, (cell_of_row _ _ 1 _ _ _ (heap_alloc_new w _)).trans rfl⟩
  have BZ : Asd (w.heap.size < (w.alloc (.cells #[.string f, .string t] 46)).heap.size) := ⟨by simp⟩
  have B0 := Asd.mk hal
  clear hal
  go_enter Try.func48, Try.ntmps48
  go_wp2_with fail
  generalize (w.alloc (.cells #[.string f, .string t] 46)) = w0 at *
  go_loopw [5, 6] (fun s5 s6 wr => ∃ (k no co : Nat) (Po : Option Addr), s5 = .slice Po no co ∧ s6 = .int .i64 k ∧ k ≤ l.length ∧ no ≤ k ∧ Asd (Below w0.heap.size w0 wr) ∧ Asd (wr.ownsRow w0.heap.size 53 3 (.slice Po no co) no (rowCells ((l.take k).filter fun r => hasP r.key ⟨f, t⟩)))) (fun _ s6 _ => l.length - (intOf s6).toNat)
  case atStart => exact ⟨0, 0, 0, none, rfl, rfl, by omega, by omega, ⟨Below.refl _ _⟩, ⟨World.ownsRow_nil _ _ _ _⟩⟩
  case round =>
    obtain ⟨k, no, co, Po, rfl, rfl, hk, hno, BW, OW⟩ := hrel
    have BN := Asd.mk (B0.out.trans (BW.out.mono B0.out.size))
    have hcg := (H.out.below BN.out).cell
    have hfg := (H.out.below BN.out).frozen
    have hglr : g < wr.heap.size := (H.out.below BN.out).lt
    by_cases hlt : k < l.length
    · obtain ⟨b, off, rfl, _, hil, c0, c1, c2⟩ := (H.out.below BN.out).rd.row hlt
      have hcap : k < c := Nat.lt_of_lt_of_le hlt H.out.rd.cap
      have hft := filter_take_succ (fun r => hasP r.key ⟨f, t⟩) l hlt
      have CC : Asd (∀ W, Below wr.heap.size wr W → W.cell? ⟨g, 0, none⟩ = some (.slice (some ⟨b, off, none⟩) l.length c) ∧ W.cell? ⟨b, off + k * 3, none⟩ = some (.string l[k].key) ∧ W.cell? ⟨b, off + k * 3 + 1, none⟩ = some (.int .i64 l[k].stamp) ∧ W.cell? ⟨b, off + k * 3 + 2, none⟩ = some (.string l[k].val)) := ⟨fun W hW => by
        have hB := BN.out.trans (hW.mono BN.out.size)
        obtain ⟨b', off', hA, _, _, c0, c1, c2⟩ := (H.out.below hB).rd.row hlt
        cases hA
        exact ⟨(H.out.below hB).cell, c0, c1, c2⟩⟩
      have hbl : b < wr.heap.size := by
        obtain ⟨b', off', hA, hb', _⟩ := (H.out.below BN.out).rd.row hlt
        cases hA
        exact hb'
      generalize l[k] = y at c0 c1 c2 hft CC
      have FT := Asd.mk hft
      have x0 : wr.cell? ⟨w.heap.size, 0, none⟩ = some (.string f) := ((bcell BW.out).1 w.heap.size 0 BZ.out).trans BX.out.1
      have x1 : wr.cell? ⟨w.heap.size, 1, none⟩ = some (.string t) := ((bcell BW.out).1 w.heap.size 1 BZ.out).trans BX.out.2
      have hxl : w.heap.size < wr.heap.size := Nat.lt_of_lt_of_le BZ.out BW.out.size
      clear hft hil
      go_wp2_with fail
      go_region_with (go_at_call 62; refine (RefHas_calls (base := base) (n := 1) (c := 1) (l := [⟨f, t⟩]) ((Rd.newb rfl rfl rfl).below ((Below.refl _ _).drew)) (by omega) y.key).mono ?_; rw [show [(⟨f, t⟩ : SpanR)].any (hasP y.key) = hasP y.key ⟨f, t⟩ from by simp]; rintro e w6 ⟨rfl, hw6⟩; have BB := Asd.mk (show Below wr.heap.size wr w6 by rw [hw6]; exact ((Below.refl _ _).alloc (Nat.le_refl _) _).drew); clear hw6)
      all_goals
        have B6 := Asd.mk (BW.out.trans (BB.out.mono BW.out.size))
        have O6 := Asd.mk (OW.out.kept (gb_below BB.out none) (by cases (Value.slice Po no co).ownBlock <;> simp))
        obtain ⟨e0, e1, e2, e3⟩ := CC.out _ BB.out
        have SIZ := Asd.mk B6.out.size
        clear c0 c1 c2 x0 x1 CC hcg hfg OW BW
        cases hh : hasP y.key ⟨f, t⟩
        · have HH := Asd.mk hh
          clear hh
          have O8 : Asd (w6.ownsRow w0.heap.size 53 3 (.slice Po no co) no (rowCells ((l.take (k + 1)).filter fun r => hasP r.key ⟨f, t⟩))) := ⟨by rw [FT.out, if_neg (by simp [HH.out]), List.append_nil]; exact O6.out⟩
          go_wp2_with fail
          go_roundw
          case measure => simp [intOf]; omega
          case rel => exact ⟨k + 1, no, co, Po, rfl, by go_num, by omega, by omega, B6, O8⟩
        · have HH := Asd.mk hh
          clear hh
          have S2 : Asd ((l.take (k + 1)).filter (fun r => hasP r.key ⟨f, t⟩) = (l.take k).filter (fun r => hasP r.key ⟨f, t⟩) ++ [y]) := ⟨by rw [FT.out, if_pos (by simp [HH.out])]⟩
          go_wp2_with (at_builtin; go_loud (refine wpList_append_mine (base := base) (own := w0.heap.size) (n := no) (m := 1) (v := .slice Po no co) (xs := rowCells ((l.take k).filter fun r => hasP r.key ⟨f, t⟩)) (ys := rowCells [y]) rfl (.tmp 27) (.tmp 35) 37 rfl elt_row rfl rfl (O6.out.alloc _) (Rd.new_ rfl rfl) (row_one _) (by unfold maxLen; omega) (by omega) (Nat.le_trans SIZ.out (by simp)) ?_; intro v8 w8 O8' G8'; obtain ⟨P8, c8, rfl, _⟩ := Rd.of_own (base := base) O8'; have O8 : Asd (w8.ownsRow w0.heap.size 53 3 (.slice P8 (no + 1) c8) (no + 1) (rowCells ((l.take (k + 1)).filter fun r => hasP r.key ⟨f, t⟩))) := ⟨by have h := O8'; rw [S2.out]; unfold rowCells at h ⊢; rw [List.flatMap_append]; exact h⟩; have B8 := Asd.mk ((B6.out.alloc B6.out.size (.cells #[.string y.key, .int .i64 y.stamp, .string y.val] 53)).grown G8' (Nat.le_trans B6.out.size (by simp)) (fun j hj => (O6.out.lt j hj).1)); clear O8' G8'))
          go_roundw
          case measure => simp [intOf]; omega
          case rel => exact ⟨k + 1, no + 1, c8, P8, rfl, by go_num, by omega, by omega, B8, O8⟩
    · have hke : (l.take k).filter (fun r => hasP r.key ⟨f, t⟩) = l.filter fun r => hasP r.key ⟨f, t⟩ := by rw [List.take_of_length_le (by omega)]
      have OF : Asd (wr.ownsRow w0.heap.size 53 3 (.slice Po no co) no (rowCells (l.filter fun r => hasP r.key ⟨f, t⟩))) := ⟨by rw [← hke]; exact OW.out⟩
      clear hke OW
      go_wp2_with fail
      go_ret
      exact ⟨Po, no, co, rfl, BN.out, by rw [RF.out]; exact own_le OF.out B0.out.size⟩

set_option maxHeartbeats 8000000 in
set_option maxRecDepth 100000 in
theorem RDrop_calls {base g c : Nat} {w : World} {l : List Rw} {A : Option Addr} (h : RTab base w g l A c) (s : SpanR) :
    Calls Try.prog 51 #[.pointer (some ⟨g, 0, none⟩), .agg s.enc.toArray] w (RDropPost base w A g (dropP l s) (((endsP l s).2 - (endsP l s).1 : Nat) : Int)) := by
  have H := Asd.mk h
  have hbig := h.big
  have hgl := h.lt
  have hbs : base ≤ w.heap.size := by have := h.ge; omega
  have RF : Asd (rowsP l s = l.filter fun r => hasP r.key s) := ⟨rowsP_filter h.srt s⟩
  have DF : Asd (dropP l s = l.filter fun r => !hasP r.key s) := ⟨dropP_filter h.srt s⟩
  have DL : Asd ((dropP l s).length + ((endsP l s).2 - (endsP l s).1) = l.length) := ⟨dropP_len l s⟩
  have DS : Asd (Sorted (dropP l s)) := ⟨dropP_sorted h.srt s⟩
  clear h
  obtain ⟨f, t⟩ := s
  unfold SpanR.enc
  have hal : Below w.heap.size w (w.alloc (.cells #[.string f, .string t] 46)) := (Below.refl _ _).alloc (Nat.le_refl _) _
  have BX : Asd ((w.alloc (.cells #[.string f, .string t] 46)).cell? ⟨w.heap.size, 0, none⟩ = some (.string f) ∧ (w.alloc (.cells #[.string f, .string t] 46)).cell? ⟨w.heap.size, 1, none⟩ = some (.string t)) := ⟨(cell_of_row _ _ 0 _ _ _ (heap_alloc_new w _)).trans rfl, (cell_of_row _ _ 1 _ _ _ (heap_alloc_new w _)).trans rfl⟩
  have BZ : Asd (w.heap.size < (w.alloc (.cells #[.string f, .string t] 46)).heap.size) := ⟨by simp⟩
  have B0 := Asd.mk hal
  clear hal
  go_enter Try.func51, Try.ntmps51
  go_wp2_with fail
  generalize (w.alloc (.cells #[.string f, .string t] 46)) = w0 at *
  go_loopw [5, 6] (fun s5 s6 wr => ∃ (k no co : Nat) (Po : Option Addr), s5 = .slice Po no co ∧ s6 = .int .i64 k ∧ k ≤ l.length ∧ no ≤ k ∧ Asd (Below w0.heap.size w0 wr) ∧ Asd (wr.ownsRow w0.heap.size 53 3 (.slice Po no co) no (rowCells ((l.take k).filter fun r => !hasP r.key ⟨f, t⟩)))) (fun _ s6 _ => l.length - (intOf s6).toNat)
  case atStart => exact ⟨0, 0, 0, none, rfl, rfl, by omega, by omega, ⟨Below.refl _ _⟩, ⟨World.ownsRow_nil _ _ _ _⟩⟩
  case round =>
    obtain ⟨k, no, co, Po, rfl, rfl, hk, hno, BW, OW⟩ := hrel
    have BN := Asd.mk (B0.out.trans (BW.out.mono B0.out.size))
    have hcg := (H.out.below BN.out).cell
    have hfg := (H.out.below BN.out).frozen
    have hglr : g < wr.heap.size := (H.out.below BN.out).lt
    by_cases hlt : k < l.length
    · obtain ⟨b, off, rfl, _, hil, c0, c1, c2⟩ := (H.out.below BN.out).rd.row hlt
      have hcap : k < c := Nat.lt_of_lt_of_le hlt H.out.rd.cap
      have hft := filter_take_succ (fun r => !hasP r.key ⟨f, t⟩) l hlt
      have CC : Asd (∀ W, Below wr.heap.size wr W → W.cell? ⟨g, 0, none⟩ = some (.slice (some ⟨b, off, none⟩) l.length c) ∧ W.cell? ⟨b, off + k * 3, none⟩ = some (.string l[k].key) ∧ W.cell? ⟨b, off + k * 3 + 1, none⟩ = some (.int .i64 l[k].stamp) ∧ W.cell? ⟨b, off + k * 3 + 2, none⟩ = some (.string l[k].val)) := ⟨fun W hW => by
        have hB := BN.out.trans (hW.mono BN.out.size)
        obtain ⟨b', off', hA, _, _, c0, c1, c2⟩ := (H.out.below hB).rd.row hlt
        cases hA
        exact ⟨(H.out.below hB).cell, c0, c1, c2⟩⟩
      have hbl : b < wr.heap.size := by
        obtain ⟨b', off', hA, hb', _⟩ := (H.out.below BN.out).rd.row hlt
        cases hA
        exact hb'
      generalize l[k] = y at c0 c1 c2 hft CC
      have FT := Asd.mk hft
      have x0 : wr.cell? ⟨w.heap.size, 0, none⟩ = some (.string f) := ((bcell BW.out).1 w.heap.size 0 BZ.out).trans BX.out.1
      have x1 : wr.cell? ⟨w.heap.size, 1, none⟩ = some (.string t) := ((bcell BW.out).1 w.heap.size 1 BZ.out).trans BX.out.2
      have hxl : w.heap.size < wr.heap.size := Nat.lt_of_lt_of_le BZ.out BW.out.size
      clear hft hil
      go_wp2_with fail
      go_region_with (go_at_call 62; refine (RefHas_calls (base := base) (n := 1) (c := 1) (l := [⟨f, t⟩]) ((Rd.newb rfl rfl rfl).below ((Below.refl _ _).drew)) (by omega) y.key).mono ?_; rw [show [(⟨f, t⟩ : SpanR)].any (hasP y.key) = hasP y.key ⟨f, t⟩ from by simp]; rintro e w6 ⟨rfl, hw6⟩; have BB := Asd.mk (show Below wr.heap.size wr w6 by rw [hw6]; exact ((Below.refl _ _).alloc (Nat.le_refl _) _).drew); clear hw6)
      all_goals
        have B6 := Asd.mk (BW.out.trans (BB.out.mono BW.out.size))
        have O6 := Asd.mk (OW.out.kept (gb_below BB.out none) (by cases (Value.slice Po no co).ownBlock <;> simp))
        obtain ⟨e0, e1, e2, e3⟩ := CC.out _ BB.out
        have SIZ := Asd.mk B6.out.size
        clear c0 c1 c2 x0 x1 CC hcg hfg OW BW
        cases hh : hasP y.key ⟨f, t⟩
        · have HH := Asd.mk hh
          clear hh
          have S2 : Asd ((l.take (k + 1)).filter (fun r => !hasP r.key ⟨f, t⟩) = (l.take k).filter (fun r => !hasP r.key ⟨f, t⟩) ++ [y]) := ⟨by rw [FT.out, if_pos (by simp [HH.out])]⟩
          go_wp2_with (at_builtin; go_loud (refine wpList_append_mine (base := base) (own := w0.heap.size) (n := no) (m := 1) (v := .slice Po no co) (xs := rowCells ((l.take k).filter fun r => !hasP r.key ⟨f, t⟩)) (ys := rowCells [y]) rfl (.tmp 29) (.tmp 37) 37 rfl elt_row rfl rfl (O6.out.alloc _) (Rd.new_ rfl rfl) (row_one _) (by unfold maxLen; omega) (by omega) (Nat.le_trans SIZ.out (by simp)) ?_; intro v8 w8 O8' G8'; obtain ⟨P8, c8, rfl, _⟩ := Rd.of_own (base := base) O8'; have O8 : Asd (w8.ownsRow w0.heap.size 53 3 (.slice P8 (no + 1) c8) (no + 1) (rowCells ((l.take (k + 1)).filter fun r => !hasP r.key ⟨f, t⟩))) := ⟨by have h := O8'; rw [S2.out]; unfold rowCells at h ⊢; rw [List.flatMap_append]; exact h⟩; have B8 := Asd.mk ((B6.out.alloc B6.out.size (.cells #[.string y.key, .int .i64 y.stamp, .string y.val] 53)).grown G8' (Nat.le_trans B6.out.size (by simp)) (fun j hj => (O6.out.lt j hj).1)); clear O8' G8'))
          go_roundw
          case measure => simp [intOf]; omega
          case rel => exact ⟨k + 1, no + 1, c8, P8, rfl, by go_num, by omega, by omega, B8, O8⟩
        · have HH := Asd.mk hh
          clear hh
          have O8 : Asd (w6.ownsRow w0.heap.size 53 3 (.slice Po no co) no (rowCells ((l.take (k + 1)).filter fun r => !hasP r.key ⟨f, t⟩))) := ⟨by rw [FT.out, if_neg (by simp [HH.out]), List.append_nil]; exact O6.out⟩
          go_wp2_with fail
          go_roundw
          case measure => simp [intOf]; omega
          case rel => exact ⟨k + 1, no, co, Po, rfl, by go_num, by omega, by omega, B6, O8⟩
    · have hke : (l.take k).filter (fun r => !hasP r.key ⟨f, t⟩) = l.filter fun r => !hasP r.key ⟨f, t⟩ := by rw [List.take_of_length_le (by omega)]
      have OF : Asd (wr.ownsRow w0.heap.size 53 3 (.slice Po no co) no (rowCells (l.filter fun r => !hasP r.key ⟨f, t⟩))) := ⟨by rw [← hke]; exact OW.out⟩
      clear hke OW
      obtain ⟨_, _, e, hro⟩ := Rd.of_own (base := base) OF.out
      injection e with e1 _ e2
      subst e1 e2
      rw [← DF.out] at hro
      have hlen := hro.count (enc := Rw.enc) (fun _ => rfl) (by omega)
      have hfin := H.out.store BN.out hro DS.out (by have := DL.out; omega) (Fr.own (own_le OF.out B0.out.size) (Nat.le_refl _)) (fun a ha => (OF.out.lt a.block (by rw [ha]; rfl)).2)
      have FIN := Asd.mk hfin
      have hdl := DL.out
      have hnl : no ≤ l.length := by omega
      have hval : (l.length : Int) - (no : Int) = (((endsP l ⟨f, t⟩).2 - (endsP l ⟨f, t⟩).1 : Nat) : Int) := by omega
      have HV := Asd.mk hval
      have hw1 : IntKind.i64.wrap ((l.length : Int) - (no : Int)) = (l.length : Int) - (no : Int) := IntWalk.i64_in _ (by omega)
      clear hro hlen hfin hdl hval
      go_wp2_with fail
      go_ret
      exact ⟨by rw [HV.out]; rfl, FIN.out⟩

set_option maxHeartbeats 2000000 in
theorem RFork_calls {base g c : Nat} {w : World} {l : List Rw} {A : Option Addr} (h : RTab base w g l A c) (hb : base ≤ w.heap.size) :
    Calls Try.prog 26 #[.pointer (some ⟨g, 0, none⟩)] w fun e w' => ∃ g' A' c', e = .returned (.pointer (some ⟨g', 0, none⟩)) ∧ RTab base w' g' l A' c' ∧ w.heap.size ≤ g' ∧ Below w.heap.size w w' := by
  have H := Asd.mk h
  have hc := h.cell
  have hbig := h.big
  have hgl := h.lt
  clear h
  go_enter Try.func26, Try.ntmps26
  go_wp2_with (at_builtin; refine wpList_append_full (base := base) (n := 0) (c := 0) (m := l.length) (xs := []) (ys := rowCells l) rfl (.tmp 3) (.tmp 7) 37 rfl elt_row rfl rfl (Rd.empty_ _ (fun h => by cases h)) (H.out.rd.alloc _) (by omega) (row_one _) (by unfold maxLen; omega) (by omega) ?_; intro A1 c1 w1 F1; have B1 := Asd.mk (((Below.refl w.heap.size w).alloc (Nat.le_refl _) (.cells #[] 53)).trans (F1.below.mono (by simp))); have R1 := Asd.mk F1.rd; have LT : Asd (∀ a, A1 = some a → a.block < w1.heap.size) := ⟨fun a ha => by rcases F1.how with h | h; (have h2 := F1.below.size; rw [h.1] at ha; injection ha with ha; subst ha; simp at h2 ⊢; omega); exact (h.1.lt a.block (by rw [ha]; rfl)).2⟩; clear F1)
  go_ret
  have hr : Rd base 53 w1 3 A1 l.length c1 (rowCells l) := by have h := R1.out; rw [Nat.zero_add] at h; exact h
  exact ⟨_, A1, c1, rfl, ⟨by simpa using heap_alloc_new w1 _, by have := B1.out.size; omega, hr.alloc _, H.out.srt, H.out.big, fun a ha => by have := LT.out a ha; simp; omega⟩, B1.out.size, B1.out.alloc B1.out.size _⟩

theorem mem_putL {l : List Rw} (h : Sorted l) (q r : Rw) : r ∈ putL l q ↔ r = q ∨ (r ∈ l ∧ r.key ≠ q.key) := by
  have hsplit : ∀ x, x ∈ l ↔ x ∈ l.take (pos q.key l) ∨ x ∈ l.drop (pos q.key l) := fun x => by
    conv => lhs; rw [← List.take_append_drop (pos q.key l) l]
    exact List.mem_append
  have htake := take_pos q.key l h
  unfold putL
  rw [List.mem_append, List.mem_append, List.mem_singleton, hsplit]
  cases ht : there q.key l with
  | true =>
    rw [if_pos rfl]
    obtain ⟨y, rest, e, hk, hlt⟩ := there_drop h ht
    have e2 : l.drop (pos q.key l + 1) = rest := by rw [← List.drop_drop, e]; rfl
    rw [e2, e]
    constructor
    · rintro ((h1 | h1) | h1)
      · exact .inr ⟨.inl h1, klt_ne (htake r h1)⟩
      · exact .inl h1
      · exact .inr ⟨.inr (List.mem_cons_of_mem _ h1), fun e => klt_ne (hlt r h1) e.symm⟩
    · rintro (h1 | ⟨h1 | h1, h2⟩)
      · exact .inl (.inr h1)
      · exact .inl (.inl h1)
      · rcases List.mem_cons.1 h1 with h3 | h3
        · subst h3; exact absurd hk h2
        · exact .inr h3
  | false =>
    rw [if_neg (by decide)]
    have hd := notthere_drop h ht
    constructor
    · rintro ((h1 | h1) | h1)
      · exact .inr ⟨.inl h1, klt_ne (htake r h1)⟩
      · exact .inl h1
      · exact .inr ⟨.inr h1, fun e => klt_ne (hd r h1) e.symm⟩
    · rintro (h1 | ⟨h1 | h1, h2⟩)
      · exact .inl (.inr h1)
      · exact .inl (.inl h1)
      · exact .inr h1
def putAll (l rows : List Rw) : List Rw := rows.foldl putL l
theorem putAll_snoc (l rows : List Rw) (r : Rw) : putAll l (rows ++ [r]) = putL (putAll l rows) r := by simp [putAll]
theorem snoc_ind {P : List Rw → Prop} (h0 : P []) (hs : ∀ l r, P l → P (l ++ [r])) : ∀ l, P l := fun l => by
  have : ∀ n, P (l.take n) := fun n => by
    induction n with
    | zero => exact h0
    | succ n ih =>
      rcases Nat.lt_or_ge n l.length with h | h
      · rw [List.take_succ_eq_append_getElem h]; exact hs _ _ ih
      · rw [List.take_of_length_le (by omega)]; rwa [List.take_of_length_le h] at ih
  simpa using this l.length
theorem putAll_sorted {l : List Rw} (h : Sorted l) : ∀ rows, Sorted (putAll l rows) :=
  snoc_ind h fun rows r ih => by rw [putAll_snoc]; exact putL_sorted ih r
theorem mem_putAll {l : List Rw} (h : Sorted l) : ∀ rows, Sorted rows → ∀ r, r ∈ putAll l rows ↔ r ∈ rows ∨ (r ∈ l ∧ ∀ q ∈ rows, q.key ≠ r.key) :=
  snoc_ind (fun _ r => by simp [putAll]) fun rows q ih hs r => by
    have hs1 : Sorted rows := List.Pairwise.sublist (List.sublist_append_left _ _) hs
    have hq := (List.pairwise_append.1 hs).2.2
    rw [putAll_snoc, mem_putL (putAll_sorted h rows), ih hs1, List.mem_append, List.mem_singleton]
    constructor
    · rintro (h1 | ⟨h1 | ⟨h1, h3⟩, h2⟩)
      · exact .inl (.inr h1)
      · exact .inl (.inl h1)
      · refine .inr ⟨h1, fun p hp => ?_⟩
        rcases List.mem_append.1 hp with hp | hp
        · exact h3 p hp
        · rw [List.mem_singleton] at hp; subst hp; exact fun e => h2 e.symm
    · rintro ((h1 | h1) | ⟨h1, h2⟩)
      · exact .inr ⟨.inl h1, klt_ne (hq r h1 q (by simp))⟩
      · exact .inl h1
      · exact .inr ⟨.inr ⟨h1, fun p hp => h2 p (List.mem_append_left _ hp)⟩, fun e => h2 q (by simp) e.symm⟩
theorem putAll_merge {l rows : List Rw} (hl : Sorted l) (hr : Sorted rows) : putAll l rows = mergeP l rows := by
  have hm := merge_sorted hl hr
  refine sorted_ext (putAll_sorted hl rows) hm fun r => ?_
  rw [mem_putAll hl rows hr]
  have h1 : r ∈ mergeP l rows ↔ get (mergeP l rows) r.key = some r := by rw [get_some hm]; simp
  rw [h1, merge_get hl hr]
  cases hg : get rows r.key with
  | some q =>
    have hq := (get_some hr).1 hg
    simp only [Option.some.injEq]
    constructor
    · rintro (h2 | ⟨_, h3⟩)
      · exact key_inj hr hq.1 h2 hq.2
      · exact absurd hq.2 (h3 q hq.1)
    · rintro rfl
      exact .inl hq.1
  | none =>
    have hn : ∀ q ∈ rows, q.key ≠ r.key := fun q hq e => by
      have : get rows r.key = some q := (get_some hr).2 ⟨hq, e⟩
      rw [hg] at this
      cases this
    simp only
    rw [get_some hl]
    constructor
    · rintro (h2 | ⟨h2, _⟩)
      · exact absurd rfl (hn r h2)
      · exact ⟨h2, rfl⟩
    · rintro ⟨h2, _⟩
      exact .inr ⟨h2, hn⟩
/-- How many rows are new to a table. -/
def freshN (l rows : List Rw) : Nat := (rows.filter fun r => !there r.key l).length
theorem freshN_snoc (l rows : List Rw) (r : Rw) : freshN l (rows ++ [r]) = freshN l rows + (if there r.key l = true then 0 else 1) := by
  unfold freshN
  rw [List.filter_append, List.length_append]
  cases h : there r.key l <;> simp [h]
theorem putAll_there {l : List Rw} (h : Sorted l) {rows : List Rw} {q : Rw} (hs : Sorted (rows ++ [q])) : there q.key (putAll l rows) = there q.key l := by
  have hs1 : Sorted rows := List.Pairwise.sublist (List.sublist_append_left _ _) hs
  have hq := (List.pairwise_append.1 hs).2.2
  have hne : ∀ p ∈ rows, p.key ≠ q.key := fun p hp => klt_ne (hq p hp q (by simp))
  have : there q.key (putAll l rows) = true ↔ there q.key l = true := by
    rw [there_iff, there_iff]
    constructor
    · rintro ⟨r, hr, hk⟩
      rcases (mem_putAll h rows hs1 r).1 hr with h1 | ⟨h1, _⟩
      · exact absurd hk (hne r h1)
      · exact ⟨r, h1, hk⟩
    · rintro ⟨r, hr, hk⟩
      exact ⟨r, (mem_putAll h rows hs1 r).2 (.inr ⟨hr, fun p hp e => hne p hp (e.trans hk)⟩), hk⟩
  cases h1 : there q.key (putAll l rows) <;> cases h2 : there q.key l <;> simp_all
theorem putAll_len {l : List Rw} (h : Sorted l) : ∀ rows, Sorted rows → (putAll l rows).length = l.length + freshN l rows :=
  snoc_ind (fun _ => by simp [putAll, freshN]) fun rows q ih hs => by
    have hs1 : Sorted rows := List.Pairwise.sublist (List.sublist_append_left _ _) hs
    rw [putAll_snoc, putL_len (putAll_sorted h rows), putAll_there h hs, ih hs1, freshN_snoc]
    split <;> omega
theorem freshN_take_le (l rows : List Rw) (k : Nat) : freshN l (rows.take k) ≤ freshN l rows := by
  conv => rhs; rw [← List.take_append_drop k rows]
  unfold freshN
  rw [List.filter_append, List.length_append]
  omega
theorem freshN_le (l rows : List Rw) : freshN l rows ≤ rows.length := List.length_filter_le _ _
theorem takeP_bad {l rows : List Rw} {r : Rw} (hr : r ∈ rows) (h : rowOk r = false) : takeP l rows = (80, l) := by
  unfold takeP
  rw [if_pos (List.any_eq_true.2 ⟨r, hr, by rw [h]; rfl⟩)]
theorem takeP_shape {l rows : List Rw} (h : ∀ r ∈ rows, rowOk r = true) (hs : ¬ Sorted rows) : takeP l rows = (4, l) := by
  unfold takeP
  rw [if_neg, if_pos hs]
  rw [List.any_eq_true]
  rintro ⟨r, hr, h2⟩
  rw [h r hr] at h2
  cases h2
theorem takeP_full {l rows : List Rw} (hl : Sorted l) (h : ∀ r ∈ rows, rowOk r = true) (hs : Sorted rows) : takeP l rows = if 4096 < l.length + freshN l rows then (22, l) else (0, putAll l rows) := by
  unfold takeP
  rw [if_neg, if_neg (fun a => a hs), ← putAll_merge hl hs, putAll_len hl rows hs]
  rw [List.any_eq_true]
  rintro ⟨r, hr, h2⟩
  rw [h r hr] at h2
  cases h2
theorem sorted_snoc' {l : List Rw} {i : Nat} (h : Sorted (l.take i)) (hi : i < l.length) (hl : ∀ j (hj : j + 1 = i), klt (l[j]'(by omega)).key l[i].key) : Sorted (l.take (i + 1)) := by
  rw [List.take_succ_eq_append_getElem hi]
  refine List.pairwise_append.2 ⟨h, List.pairwise_singleton _ _, fun y hy z hz => ?_⟩
  rw [List.mem_singleton] at hz
  subst hz
  obtain ⟨t, ht, rfl⟩ := List.getElem_of_mem hy
  rw [List.length_take] at ht
  rw [List.getElem_take]
  obtain ⟨j, hj⟩ : ∃ j, j + 1 = i := ⟨i - 1, by omega⟩
  rcases Nat.lt_or_ge t j with h1 | h1
  · have h2 := List.pairwise_iff_getElem.1 h t j (by rw [List.length_take]; omega) (by rw [List.length_take]; omega) h1
    rw [List.getElem_take, List.getElem_take] at h2
    exact klt_trans h2 (hl j hj)
  · obtain rfl : t = j := by omega
    exact hl t hj
end Go.Proofs.Ytehfaeafefkngaa

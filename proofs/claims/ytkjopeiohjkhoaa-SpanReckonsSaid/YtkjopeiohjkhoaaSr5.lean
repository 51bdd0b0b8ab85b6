/- The document's ends: all beginnings and ends of two lists, rising. -/
import Derived.Test.YtkjopeiohjkhoaaSr4
import Derived.Test.YtkjopeiohjkhoaaSw3
import Derived.Deep.Cut
set_option linter.unusedVariables false
set_option linter.unusedSimpArgs false
namespace Go.Proofs.Ytkjopeiohjkhoaa
open Go.RowKit
set_option maxHeartbeats 16000000 in
set_option maxRecDepth 100000 in
theorem ends_calls {base : Nat} {w : World} {A B : Option Addr} {n c m d : Nat} {a b : List SpanR} (ha : Rd base 35 w 2 A n c (sCells a)) (hb : Rd base 35 w 2 B m d (sCells b)) (hn : n ≤ 4096) (hm : m ≤ 4096) (hbs : base ≤ w.heap.size) :
    Calls Try.prog 40 #[.slice A n c, .slice B m d] w (SortedPost base w (allEnds (a ++ b))) := by
  have hcn := ha.count (enc := SpanR.enc) (fun _ => rfl) (by omega)
  have hcm := hb.count (enc := SpanR.enc) (fun _ => rfl) (by omega)
  have RA := Asd.mk ha
  have RB := Asd.mk hb
  have NA := Asd.mk hcn
  have NB := Asd.mk hcm
  have BS := Asd.mk hbs
  have NL : Asd ((a ++ b).length = n + m) := ⟨by rw [List.length_append]; omega⟩
  clear ha hb hcn hcm hbs
  go_enter Try.func40, Try.ntmps40
  go_wp2_with fail
  go_loopw [5, 6] (fun s5 s6 wr => ∃ (i no co : Nat) (Po : Option Addr), s5 = .slice Po no co ∧ s6 = .int .i64 i ∧ i ≤ n + m ∧ no ≤ 2 * i ∧ Asd (Below w.heap.size w wr) ∧ Asd (wr.ownsRow w.heap.size 9 1 (.slice Po no co) no (tCells (allEnds ((a ++ b).take i))))) (fun _ s6 _ => n + m - (intOf s6).toNat)
  case atStart => exact ⟨0, 0, 0, none, rfl, rfl, by omega, by omega, ⟨Below.refl _ _⟩, ⟨World.ownsRow_nil _ _ _ _⟩⟩
  case round =>
    obtain ⟨i, no, co, Po, rfl, rfl, hi, hno, BW, OW⟩ := hrel
    by_cases hlt : i < n + m
    · have hil : i < (a ++ b).length := by rw [NL.out]; exact hlt
      have hsn : allEnds ((a ++ b).take (i + 1)) = allEnds ((a ++ b).take i) ++ ends1 (a ++ b)[i] := by rw [List.take_succ_eq_append_getElem hil, allEnds_snoc]
      have hlt2 : (i : Int) < (n : Int) + (m : Int) := by omega
      by_cases hin : i < n
      · obtain ⟨sb, so, rfl, hb1, hal, hcs⟩ := (RA.out.below BW.out).at_enc (enc := SpanR.enc) (fun _ => rfl) (by omega) hin
        have hcap : i < c := Nat.lt_of_lt_of_le hin RA.out.cap
        rw [List.getElem_append_left hal] at hsn
        generalize a[i] = s at hcs hsn
        obtain ⟨f, t⟩ := s
        have c0 : wr.cell? ⟨sb, so + i * 2, none⟩ = some (.string f) := hcs 0 _ rfl
        have c1 : wr.cell? ⟨sb, so + i * 2 + 1, none⟩ = some (.string t) := hcs 1 _ rfl
        have SN := Asd.mk hsn
        clear hcs hsn
        have OLT : Asd (∀ j, (Value.slice Po no co).ownBlock = some j → j < wr.heap.size) := ⟨fun j hj => (OW.out.lt j hj).2⟩
        have hno2 : no ≤ 20000 := by omega
        generalize allEnds ((a ++ b).take i) = L at *
        generalize hL' : allEnds ((a ++ b).take (i + 1)) = L' at *
        have HL' := Asd.mk hL'
        clear hL'
        by_cases hz : t.size = 0
        · as_aux_lemma =>
          have htl : t.toList = [] := by rw [tl_nil]; exact hz
          have HZ := Asd.mk hz
          clear hz
          go_wp2_with ((at_builtin; go_loud (refine wpList_append_mine (base := base) (own := w.heap.size) (n := no) (m := 1) (v := .slice Po no co) (xs := tCells L) (ys := tCells [f]) rfl (.tmp 33) (.tmp 36) 57 rfl elt_text rfl rfl ((OW.out.alloc _).alloc _) (Rd.new2 (by simp) rfl rfl) (text_one _) (by unfold maxLen; omega) (by omega) (Nat.le_trans BW.out.size (by simp; omega)) ?_; intro v8 w8 O8' G8'; obtain ⟨P8, c8, rfl, _⟩ := Rd.of_own (base := base) O8'; have O8 := Asd.mk O8'; have B8 := Asd.mk (((BW.out.alloc BW.out.size (.cells #[.string f, .string t] 35)).alloc (Nat.le_trans BW.out.size (by simp)) (.cells #[.string f] 9)).grown G8' (Nat.le_trans BW.out.size (by simp; omega)) (fun i hi => (OW.out.lt i hi).1)); have e0 : w8.cell? ⟨wr.heap.size, 0, none⟩ = some (.string f) := (box_cell G8' OLT.out 0); have e1 : w8.cell? ⟨wr.heap.size, 1, none⟩ = some (.string t) := (box_cell G8' OLT.out 1); clear O8' G8')))
          go_roundw
          case measure => simp [intOf]; omega
          case rel =>
            have O9 : Asd (w8.ownsRow w.heap.size 9 1 (.slice P8 (no + 1) c8) (no + 1) (tCells (allEnds ((a ++ b).take (i + 1))))) := ⟨by rw [HL'.out, SN.out, ends1, if_pos HZ.out, ← tCells_snoc]; exact O8.out⟩
            exact ⟨i + 1, no + 1, c8, P8, rfl, by go_num, by omega, by omega, B8, O9⟩
        · as_aux_lemma =>
          have htl : ¬ t.toList = [] := by rw [tl_nil]; exact hz
          have hte : ¬ t = ByteArray.empty := by rw [emp_iff]; exact htl
          have hie : t.toList.isEmpty = false := by rw [empty_eq]; exact decide_eq_false hz
          have HZ := Asd.mk hz
          clear hz
          go_wp2_with (first | (at_builtin; go_loud (refine wpList_append_mine (base := base) (own := w.heap.size) (n := no) (m := 1) (v := .slice Po no co) (xs := tCells L) (ys := tCells [f]) rfl (.tmp 33) (.tmp 36) 57 rfl elt_text rfl rfl ((OW.out.alloc _).alloc _) (Rd.new2 (by simp) rfl rfl) (text_one _) (by unfold maxLen; omega) (by omega) (Nat.le_trans BW.out.size (by simp; omega)) ?_; intro v8 w8 O8' G8'; obtain ⟨P8, c8, rfl, _⟩ := Rd.of_own (base := base) O8'; have O8 := Asd.mk O8'; have B8 := Asd.mk (((BW.out.alloc BW.out.size (.cells #[.string f, .string t] 35)).alloc (Nat.le_trans BW.out.size (by simp)) (.cells #[.string f] 9)).grown G8' (Nat.le_trans BW.out.size (by simp; omega)) (fun i hi => (OW.out.lt i hi).1)); have e0 : w8.cell? ⟨wr.heap.size, 0, none⟩ = some (.string f) := (box_cell G8' OLT.out 0); have e1 : w8.cell? ⟨wr.heap.size, 1, none⟩ = some (.string t) := (box_cell G8' OLT.out 1); clear O8' G8')) | (at_builtin; refine wpList_append_mine (base := base) (own := w.heap.size) (n := no + 1) (m := 1) (v := .slice P8 (no + 1) c8) (xs := tCells L ++ tCells [f]) (ys := tCells [t]) rfl (.tmp 41) (.tmp 44) 57 rfl elt_text rfl rfl (O8.out.alloc _) (Rd.new_ rfl rfl) (text_one _) (by unfold maxLen; omega) (by omega) (Nat.le_trans B8.out.size (by simp)) ?_; intro v9 w9 O9' G9'; obtain ⟨P9, c9, rfl, _⟩ := Rd.of_own (base := base) O9'; have O9 := Asd.mk O9'; have B9 := Asd.mk ((B8.out.alloc B8.out.size (.cells #[.string t] 9)).grown G9' (Nat.le_trans B8.out.size (by simp)) (fun i hi => (O8.out.lt i hi).1)); clear O9' G9'))
          go_roundw
          case measure => simp [intOf]; omega
          case rel =>
            have O7 : Asd (w9.ownsRow w.heap.size 9 1 (.slice P9 (no + 1 + 1) c9) (no + 1 + 1) (tCells (allEnds ((a ++ b).take (i + 1))))) := ⟨by rw [HL'.out, SN.out, ends1, if_neg HZ.out, show L ++ [f, t] = (L ++ [f]) ++ [t] by simp, ← tCells_snoc, ← tCells_snoc]; exact O9.out⟩
            exact ⟨i + 1, no + 1 + 1, c9, P9, rfl, by go_num, by omega, by omega, B9, O7⟩
      · obtain ⟨jj, hjj⟩ : ∃ jj, i - n = jj := ⟨_, rfl⟩
        have hj : jj < m := by omega
        obtain ⟨sb, so, rfl, hb1, hal, hcs⟩ := (RB.out.below BW.out).at_enc (enc := SpanR.enc) (fun _ => rfl) (by omega) hj
        have hcap : jj < d := Nat.lt_of_lt_of_le hj RB.out.cap
        rw [List.getElem_append_right (by have := NA.out; omega)] at hsn
        have hix : i - a.length = jj := by have := NA.out; omega
        simp only [hix] at hsn
        generalize b[jj] = s at hcs hsn
        obtain ⟨f, t⟩ := s
        have c0 : wr.cell? ⟨sb, so + jj * 2, none⟩ = some (.string f) := hcs 0 _ rfl
        have c1 : wr.cell? ⟨sb, so + jj * 2 + 1, none⟩ = some (.string t) := hcs 1 _ rfl
        have SN := Asd.mk hsn
        clear hcs hsn
        have hij : (i : Int) - (n : Int) = (jj : Int) := by omega
        have hw1 : IntKind.i64.wrap ((i : Int) - (n : Int)) = (jj : Int) := by rw [hij]; exact IntWalk.i64_in _ (by omega)
        have hw2 : wrap64 ((i : Int) - (n : Int)) = (jj : Int) := by rw [hij]; exact (wrap_in (z := (jj : Int)) (by omega)).1
        clear hij
        go_upto_region 9 with fail
        clear hw1 hw2
        have OLT : Asd (∀ j, (Value.slice Po no co).ownBlock = some j → j < wr.heap.size) := ⟨fun j hj => (OW.out.lt j hj).2⟩
        have hno2 : no ≤ 20000 := by omega
        generalize allEnds ((a ++ b).take i) = L at *
        generalize hL' : allEnds ((a ++ b).take (i + 1)) = L' at *
        have HL' := Asd.mk hL'
        clear hL'
        by_cases hz : t.size = 0
        · as_aux_lemma =>
          have htl : t.toList = [] := by rw [tl_nil]; exact hz
          have HZ := Asd.mk hz
          clear hz
          go_wp2_with ((at_builtin; go_loud (refine wpList_append_mine (base := base) (own := w.heap.size) (n := no) (m := 1) (v := .slice Po no co) (xs := tCells L) (ys := tCells [f]) rfl (.tmp 33) (.tmp 36) 57 rfl elt_text rfl rfl ((OW.out.alloc _).alloc _) (Rd.new2 (by simp) rfl rfl) (text_one _) (by unfold maxLen; omega) (by omega) (Nat.le_trans BW.out.size (by simp; omega)) ?_; intro v8 w8 O8' G8'; obtain ⟨P8, c8, rfl, _⟩ := Rd.of_own (base := base) O8'; have O8 := Asd.mk O8'; have B8 := Asd.mk (((BW.out.alloc BW.out.size (.cells #[.string f, .string t] 35)).alloc (Nat.le_trans BW.out.size (by simp)) (.cells #[.string f] 9)).grown G8' (Nat.le_trans BW.out.size (by simp; omega)) (fun i hi => (OW.out.lt i hi).1)); have e0 : w8.cell? ⟨wr.heap.size, 0, none⟩ = some (.string f) := (box_cell G8' OLT.out 0); have e1 : w8.cell? ⟨wr.heap.size, 1, none⟩ = some (.string t) := (box_cell G8' OLT.out 1); clear O8' G8')))
          go_roundw
          case measure => simp [intOf]; omega
          case rel =>
            have O9 : Asd (w8.ownsRow w.heap.size 9 1 (.slice P8 (no + 1) c8) (no + 1) (tCells (allEnds ((a ++ b).take (i + 1))))) := ⟨by rw [HL'.out, SN.out, ends1, if_pos HZ.out, ← tCells_snoc]; exact O8.out⟩
            exact ⟨i + 1, no + 1, c8, P8, rfl, by go_num, by omega, by omega, B8, O9⟩
        · as_aux_lemma =>
          have htl : ¬ t.toList = [] := by rw [tl_nil]; exact hz
          have hte : ¬ t = ByteArray.empty := by rw [emp_iff]; exact htl
          have hie : t.toList.isEmpty = false := by rw [empty_eq]; exact decide_eq_false hz
          have HZ := Asd.mk hz
          clear hz
          go_wp2_with (first | (at_builtin; go_loud (refine wpList_append_mine (base := base) (own := w.heap.size) (n := no) (m := 1) (v := .slice Po no co) (xs := tCells L) (ys := tCells [f]) rfl (.tmp 33) (.tmp 36) 57 rfl elt_text rfl rfl ((OW.out.alloc _).alloc _) (Rd.new2 (by simp) rfl rfl) (text_one _) (by unfold maxLen; omega) (by omega) (Nat.le_trans BW.out.size (by simp; omega)) ?_; intro v8 w8 O8' G8'; obtain ⟨P8, c8, rfl, _⟩ := Rd.of_own (base := base) O8'; have O8 := Asd.mk O8'; have B8 := Asd.mk (((BW.out.alloc BW.out.size (.cells #[.string f, .string t] 35)).alloc (Nat.le_trans BW.out.size (by simp)) (.cells #[.string f] 9)).grown G8' (Nat.le_trans BW.out.size (by simp; omega)) (fun i hi => (OW.out.lt i hi).1)); have e0 : w8.cell? ⟨wr.heap.size, 0, none⟩ = some (.string f) := (box_cell G8' OLT.out 0); have e1 : w8.cell? ⟨wr.heap.size, 1, none⟩ = some (.string t) := (box_cell G8' OLT.out 1); clear O8' G8')) | (at_builtin; refine wpList_append_mine (base := base) (own := w.heap.size) (n := no + 1) (m := 1) (v := .slice P8 (no + 1) c8) (xs := tCells L ++ tCells [f]) (ys := tCells [t]) rfl (.tmp 41) (.tmp 44) 57 rfl elt_text rfl rfl (O8.out.alloc _) (Rd.new_ rfl rfl) (text_one _) (by unfold maxLen; omega) (by omega) (Nat.le_trans B8.out.size (by simp)) ?_; intro v9 w9 O9' G9'; obtain ⟨P9, c9, rfl, _⟩ := Rd.of_own (base := base) O9'; have O9 := Asd.mk O9'; have B9 := Asd.mk ((B8.out.alloc B8.out.size (.cells #[.string t] 9)).grown G9' (Nat.le_trans B8.out.size (by simp)) (fun i hi => (O8.out.lt i hi).1)); clear O9' G9'))
          go_roundw
          case measure => simp [intOf]; omega
          case rel =>
            have O7 : Asd (w9.ownsRow w.heap.size 9 1 (.slice P9 (no + 1 + 1) c9) (no + 1 + 1) (tCells (allEnds ((a ++ b).take (i + 1))))) := ⟨by rw [HL'.out, SN.out, ends1, if_neg HZ.out, show L ++ [f, t] = (L ++ [f]) ++ [t] by simp, ← tCells_snoc, ← tCells_snoc]; exact O9.out⟩
            exact ⟨i + 1, no + 1 + 1, c9, P9, rfl, by go_num, by omega, by omega, B9, O7⟩
    · have hie : i = n + m := by omega
      have hre : (a ++ b).take i = a ++ b := List.take_of_length_le (by rw [NL.out]; omega)
      have hlt2 : ¬ (i : Int) < (n : Int) + (m : Int) := by omega
      have O1 := OW.out
      rw [hre] at O1
      obtain ⟨P1, c1, e1, hrd⟩ := Rd.of_own (base := base) O1
      cases e1
      have SS := Asd.mk (sorted_calls (base := base) no wr _ _ _ _ (Nat.le_refl _) (by omega) (Nat.le_trans BS.out BW.out.size) hrd)
      clear O1 hrd hre hie
      go_wp2_with fail
      refine SS.out.mono ?_
      rintro e w2 ⟨P, np, cp, out, rfl, hb2, h3, h4⟩
      have B2 := Asd.mk (BW.out.trans (hb2.mono BW.out.size))
      have H3 := Asd.mk h3
      have H4 := Asd.mk h4
      clear hb2 h3 h4
      go_wp2_with fail
      go_ret
      exact ⟨P, np, cp, out, rfl, B2.out, H3.out, H4.out⟩
end Go.Proofs.Ytkjopeiohjkhoaa

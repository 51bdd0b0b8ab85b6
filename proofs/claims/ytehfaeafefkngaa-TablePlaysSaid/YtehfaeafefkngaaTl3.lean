/- The chapter's example. -/
import Derived.Test.YtehfaeafefkngaaTl2
set_option linter.unusedVariables false
set_option linter.unusedSimpArgs false
namespace Go.Proofs.Ytehfaeafefkngaa
open Go.RowKit

structure W8 where
  o : OpR
  code : Int
  stamp : Int
def W8.enc (x : W8) : List Value := x.o.enc ++ [.int .i64 x.code, .int .i64 x.stamp]
def wL : List W8 := [⟨⟨1, ⟨#[107]⟩, ⟨#[118]⟩, 5, 0, 0⟩, 0, 5⟩, ⟨⟨1, ⟨#[107]⟩, ⟨#[119]⟩, 6, 0, 0⟩, 90, 5⟩, ⟨⟨3, ⟨#[107]⟩, ⟨#[119]⟩, 5, 0, 0⟩, 92, 5⟩, ⟨⟨3, ⟨#[107]⟩, ⟨#[119]⟩, 6, 5, 0⟩, 0, 6⟩]
def wSt (k : Nat) : List Rw := playP [] ((wL.take k).map fun x => [x.o])
def wD (k : Nat) : DoR := doP (wSt k) [(wL.getD k ⟨default, 0, 0⟩).o]
theorem wSt_succ (k : Nat) (hk : k < 4) : wSt (k + 1) = (wD k).rows := by
  have hl : k < wL.length := hk
  unfold wSt wD
  rw [List.take_succ_eq_append_getElem hl, List.map_append, List.map_cons, List.map_nil, playP_snoc, List.getD_eq_getElem?_getD, List.getElem?_eq_getElem hl]
  rfl
theorem wD_ok : ∀ k, k < 4 → (wD k).at_ = 0 ∧ (wD k).code = 0 ∧ (wD k).res.length = 1 ∧ ((wD k).res.getD 0 ⟨0, 0, ⟨#[]⟩, []⟩).code = (wL.getD k ⟨default, 0, 0⟩).code ∧ ((wD k).res.getD 0 ⟨0, 0, ⟨#[]⟩, []⟩).stamp = (wL.getD k ⟨default, 0, 0⟩).stamp := by
  intro k hk
  have : k = 0 ∨ k = 1 ∨ k = 2 ∨ k = 3 := by omega
  rcases this with rfl | rfl | rfl | rfl <;> decide +kernel
def wO2 : List OpR := [⟨3, ⟨#[107]⟩, ⟨#[120]⟩, 9, 0, 0⟩, ⟨5, ⟨#[106]⟩, ⟨#[]⟩, 0, 0, 0⟩]
def wO1 : List OpR := [⟨5, ⟨#[107]⟩, ⟨#[]⟩, 0, 0, 0⟩]
theorem wE_ok : (doP (wSt 4) wO2).at_ = 1 ∧ (doP (wSt 4) wO2).code = 91 := by decide +kernel
theorem wF_ok : (doP (doP (wSt 4) wO2).rows wO1).at_ = 0 ∧ (doP (doP (wSt 4) wO2).rows wO1).code = 0 ∧ (doP (doP (wSt 4) wO2).rows wO1).res.length = 1 ∧
    ((doP (doP (wSt 4) wO2).rows wO1).res.getD 0 ⟨0, 0, ⟨#[]⟩, []⟩).val = ⟨#[119]⟩ ∧ ((doP (doP (wSt 4) wO2).rows wO1).res.getD 0 ⟨0, 0, ⟨#[]⟩, []⟩).stamp = 6 := by decide +kernel
theorem fits_small (l : List OpR) (h : l.all (fun x => decide (x.key.size ≤ 9223372036854775807) && decide (x.val.size ≤ 9223372036854775807)) = true) : ∀ x ∈ l, Fits x := by
  intro x hx
  have := List.all_eq_true.1 h x hx
  simp only [Bool.and_eq_true, decide_eq_true_eq] at this
  exact this
theorem res_single {base B : Nat} {w : World} {rr : List RRes} {rs : List Res} (h : RMs base B w rr rs) (hl : rs.length = 1) : ∃ q, rr = [q] ∧ RMatch base B w q (rs.getD 0 ⟨0, 0, ⟨#[]⟩, []⟩) := by
  match rr, rs, h, hl with
  | [q], [r], h, _ => exact ⟨q, rfl, h.1⟩
  | [], [r], h, _ => exact h.elim
  | _ :: _ :: _, [r], h, _ => exact h.2.elim

set_option maxHeartbeats 8000000 in
set_option maxRecDepth 100000 in
theorem works_calls (w : World) :
    Calls Try.prog 13 #[] w fun e w' => e = .returned (.bool true) ∧ Below w.heap.size w w' := by
  go_enter Try.func13, Try.ntmps13
  go_wp2_with fail
  refine (New_calls w.heap.size w (Nat.le_refl _)).mono ?_
  rintro e w1 ⟨g, rfl, hT1, hg1, hb1⟩
  have T1 := Asd.mk hT1
  have B1 := Asd.mk hb1
  have hs1 := hb1.size
  clear hT1 hb1
  have hg0 : w.heap.size ≤ g := hg1
  have hgl := T1.out.lt
  go_wp2_with fail
  have hcon : Rd w.heap.size 72 (w1.alloc (.cells ((wL.flatMap W8.enc).toArray) 72)) 8 (some ⟨w1.heap.size, 0, none⟩) 4 4 (wL.flatMap W8.enc) := Rd.new_ rfl rfl
  have CON := Asd.mk hcon
  clear hcon
  go_loopw [23] (fun s23 wr => ∃ k : Nat, s23 = .int .i64 k ∧ k ≤ 4 ∧ Asd (Below w.heap.size w wr) ∧ Asd (∃ A c, Tab w.heap.size wr g (wSt k) A c) ∧ Asd (Rd w.heap.size 72 wr 8 (some ⟨w1.heap.size, 0, none⟩) 4 4 (wL.flatMap W8.enc))) (fun s23 _ => 4 - (intOf s23).toNat)
  case atStart => exact ⟨0, rfl, by omega, ⟨B1.out.alloc hs1 _⟩, ⟨_, _, T1.out.below ((Below.refl _ _).alloc (Nat.le_refl _) _)⟩, CON⟩
  case round =>
    clear CON
    obtain ⟨k, rfl, hk4, BW, TW, CW⟩ := hrel
    have hsw := BW.out.size
    by_cases hlt : k < 4
    · obtain ⟨b, off, hbo, hb, hl, hcs⟩ := CW.out.at_enc (enc := W8.enc) (fun _ => rfl) (by omega) hlt
      injection hbo with hbo
      injection hbo with hb1' ho1' _
      subst hb1' ho1'
      obtain ⟨A, c, hT⟩ := TW.out
      obtain ⟨d1, d2, d3, d4, d5⟩ := wD_ok k hlt
      have hss := wSt_succ k hlt
      unfold wD at d1 d2 d3 d4 d5 hss
      rw [show wL.getD k ⟨default, 0, 0⟩ = wL[k] from by rw [List.getD_eq_getElem?_getD, List.getElem?_eq_getElem hl]; rfl] at d1 d2 d3 d4 d5 hss
      have hfit : Fits wL[k].o := fits_small (wL.map (·.o)) (by decide +kernel) _ (List.mem_map_of_mem (List.getElem_mem hl))
      generalize wL[k] = x at hcs d1 d2 d3 d4 d5 hss hfit
      have c0 := hcs 0 _ rfl
      have c1 := hcs 1 _ rfl
      have c2 := hcs 2 _ rfl
      have c3 := hcs 3 _ rfl
      have c4 := hcs 4 _ rfl
      have c5 := hcs 5 _ rfl
      have c6 := hcs 6 _ rfl
      have c7 := hcs 7 _ rfl
      simp only [Nat.zero_add, Nat.add_zero] at c0 c1 c2 c3 c4 c5 c6 c7
      have D1 := Asd.mk d1
      have D2 := Asd.mk d2
      have D3 := Asd.mk d3
      have D4 := Asd.mk d4
      have D5 := Asd.mk d5
      have SS := Asd.mk hss
      have FI := Asd.mk hfit
      have TK := Asd.mk hT
      have hgr : g < wr.heap.size := hT.lt
      clear hcs d1 d2 d3 d4 d5 hss hfit hT
      go_wp2_with fail
      refine (Do_calls (base := w.heap.size) (A := A) (c := c) (l := wSt k) ?_ [x.o] _ 1 1 ?_ ?_).mono ?_
      · exact TK.out.below (((Below.refl _ _).alloc (Nat.le_refl _) _).alloc (by simp) _)
      · exact Rd.new2 _ rfl rfl
      · intro y hy
        rw [List.mem_singleton.1 hy]
        exact FI.out
      · rintro e w2 ⟨As, ns, cs, rr, rfl, hg2, hT2, hO2, hR2⟩
        obtain ⟨q, rfl, hq⟩ := res_single hR2 D3.out
        have hns : ns = 1 := by have := hO2.1; simp [resCells, RRes.enc] at this; omega
        subst hns
        obtain ⟨As', cs', hsl, hRs⟩ := Rd.of_own (base := w.heap.size) hO2
        injection hsl with hA1 _ hc1
        subst hA1 hc1
        obtain ⟨b', off', rfl, hb', hl', hes⟩ := hRs.at_enc (enc := RRes.enc) (fun _ => rfl) (by omega) (i := 0) (by omega)
        have e0 := hes 0 _ rfl
        have e1 := hes 1 _ rfl
        simp only [Nat.zero_mul, Nat.add_zero, List.getElem_cons_zero, hq.code, hq.stamp, D4.out, D5.out] at e0 e1
        have hgr2 : wr.grownBy w2 (some g) := gb_trans (gb_below (((Below.refl _ _).alloc (Nat.le_refl _) _).alloc (by simp) _) _) hg2
        have hx : w2.heap[wr.heap.size]? = some (.cells (W8.enc x).toArray 72 (0, 0)) := (hg2.block _ (by simp; omega) (by simp; omega)).trans ((Below.heap_alloc _ _ _ (by simp)).trans (heap_alloc_new wr _))
        have x6 : w2.cell? ⟨wr.heap.size, 6, none⟩ = some (.int .i64 x.code) := (cell_of_row w2 _ 6 _ _ _ hx).trans rfl
        have x7 : w2.cell? ⟨wr.heap.size, 7, none⟩ = some (.int .i64 x.stamp) := (cell_of_row w2 _ 7 _ _ _ hx).trans rfl
        have hxs : wr.heap.size < w2.heap.size := (Array.getElem?_eq_some_iff.1 hx).1
        have BW2 := Asd.mk (BW.out.grown hgr2 hsw (fun j hj => by injection hj with hj; omega))
        have hgT : IsT wr g 71 := ⟨_, _, TK.out.blk⟩
        have CW2 := Asd.mk (CW.out.grownR hgr2 (fun j hj => by injection hj with hj; subst hj; exact ⟨hgT, hg0⟩) (by decide))
        rw [← SS.out] at hT2
        have T2 := Asd.mk hT2
        clear hg2 hT2 hO2 hR2 hq hRs hes hgr2 hx hgT
        rw [D1.out, D2.out]
        go_wp2_with fail
        go_quiet (fail)
        go_wp2_with fail
        go_roundw
        case measure => simp [intOf]; omega
        case rel =>
          have hal : ∀ n, Below w2.heap.size w2 ((w2.alloc (.cells #[.int .i64 0, .int .i64 0] 32)).drewN n) := fun n => ((Below.refl _ _).alloc (Nat.le_refl _) _).trans (below_dn _ _)
          obtain ⟨A2, c2', T2'⟩ := T2.out
          exact ⟨k + 1, by go_num, by omega, ⟨BW2.out.trans ((hal _).mono BW2.out.size)⟩, ⟨A2, c2', T2'.below (hal _)⟩, ⟨CW2.out.below (hal _)⟩⟩
    · obtain rfl : k = 4 := by omega
      obtain ⟨A, c, hT⟩ := TW.out
      obtain ⟨d1, d2⟩ := wE_ok
      obtain ⟨d3, d4, d5, d6, d7⟩ := wF_ok
      have TK := Asd.mk hT
      have hgr : g < wr.heap.size := hT.lt
      have D1 := Asd.mk d1
      have D2 := Asd.mk d2
      have D3 := Asd.mk d3
      have D4 := Asd.mk d4
      have D5 := Asd.mk d5
      have D6 := Asd.mk d6
      have D7 := Asd.mk d7
      clear d1 d2 d3 d4 d5 d6 d7 hT
      go_wp2_with fail
      refine (Do_calls (base := w.heap.size) (A := A) (c := c) (l := wSt 4) ?_ wO2 _ 2 2 ?_ ?_).mono ?_
      · exact TK.out.below ((Below.refl _ _).alloc (Nat.le_refl _) _)
      · exact Rd.new_ rfl rfl
      · exact fits_small _ (by decide +kernel)
      · rintro e w2 ⟨As, ns, cs, rr, rfl, hg2, hT2, hO2, hR2⟩
        have BW2 := Asd.mk (BW.out.grown (gb_trans (gb_below ((Below.refl _ _).alloc (Nat.le_refl _) _) _) hg2) hsw (fun j hj => by injection hj with hj; omega))
        have T2 := Asd.mk hT2
        have hgr2 : g < w2.heap.size := by have := hg2.size; simp at this; omega
        clear hg2 hT2 hO2 hR2
        rw [D1.out, D2.out]
        obtain ⟨A2, c2, TT2⟩ := T2.out
        have TT := Asd.mk TT2
        clear TT2
        go_wp2_with fail
        refine (Do_calls (base := w.heap.size) (A := A2) (c := c2) (l := (doP (wSt 4) wO2).rows) ?_ wO1 _ 1 1 ?_ ?_).mono ?_
        · exact TT.out.below (((Below.refl _ _).alloc (Nat.le_refl _) _).alloc (by simp) _)
        · exact Rd.new2 _ rfl rfl
        · exact fits_small _ (by decide +kernel)
        · rintro e w3 ⟨As', ns', cs', rr', rfl, hg3, hT3, hO3, hR3⟩
          obtain ⟨q, rfl, hq⟩ := res_single hR3 D5.out
          have hns : ns' = 1 := by have := hO3.1; simp [resCells, RRes.enc] at this; omega
          subst hns
          obtain ⟨As2, cs2, hsl, hRs⟩ := Rd.of_own (base := w.heap.size) hO3
          injection hsl with hA1 _ hc1
          subst hA1 hc1
          obtain ⟨b', off', rfl, hb', hl', hes⟩ := hRs.at_enc (enc := RRes.enc) (fun _ => rfl) (by omega) (i := 0) (by omega)
          have e1 := hes 1 _ rfl
          have e2 := hes 2 _ rfl
          simp only [Nat.zero_mul, Nat.add_zero, List.getElem_cons_zero, hq.val, hq.stamp, D6.out, D7.out] at e1 e2
          have hx : w3.heap[w2.heap.size]? = some (.cells #[.int .i64 1, .int .i64 91] 32 (0, 0)) := (hg3.block _ (by simp; omega) (by simp; omega)).trans ((Below.heap_alloc _ _ _ (by simp)).trans (heap_alloc_new w2 _))
          have x0 : w3.cell? ⟨w2.heap.size, 0, none⟩ = some (.int .i64 1) := (cell_of_row w3 _ 0 _ _ _ hx).trans rfl
          have x1 : w3.cell? ⟨w2.heap.size, 1, none⟩ = some (.int .i64 91) := (cell_of_row w3 _ 1 _ _ _ hx).trans rfl
          have hxs : w2.heap.size < w3.heap.size := (Array.getElem?_eq_some_iff.1 hx).1
          have BW3 := Asd.mk (BW2.out.grown (gb_trans (gb_below (((Below.refl _ _).alloc (Nat.le_refl _) _).alloc (by simp) _) _) hg3) BW2.out.size (fun j hj => by injection hj with hj; omega))
          clear hg3 hT3 hO3 hR3 hq hRs hes hx
          rw [D3.out, D4.out]
          go_wp2_with fail
          go_ret
          exact ⟨rfl, BW3.out.alloc BW3.out.size _⟩
end Go.Proofs.Ytehfaeafefkngaa

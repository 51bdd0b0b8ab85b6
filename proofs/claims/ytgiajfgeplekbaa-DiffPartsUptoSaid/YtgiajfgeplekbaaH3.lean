/- within: the rows of a span. -/
import Derived.Test.YtgiajfgeplekbaaP3
import Derived.Test.YtgiajfgeplekbaaDh
set_option linter.unusedVariables false
set_option linter.unusedSimpArgs false
namespace Go.Proofs.Ytgiajfgeplekbaa
open Go.RowKit

theorem Rd.new2 {base n k blk : Nat} {T : TypeId} {w : World} {xs : List Value} {cs : Array Value} (hb : blk = w.heap.size) (hc : cs.toList = xs) (hl : xs.length = n * k) : Rd base T (w.alloc (.cells cs T)) k (some ⟨blk, 0, none⟩) n n xs := by
  subst hb
  exact Rd.new_ hc hl
def withinP (l : List Rw) (s : SpanR) : List Rw := l.filter fun r => hasP r.key s
theorem withinP_snoc (l : List Rw) (s : SpanR) (r : Rw) : withinP (l ++ [r]) s = withinP l s ++ (if hasP r.key s = true then [r] else []) := by
  unfold withinP
  rw [List.filter_append]
  congr 1
  by_cases h : hasP r.key s = true <;> simp [h]
def WithinPost (w : World) (l : List Rw) (s : SpanR) (e : Ending) (w' : World) : Prop :=
  ∃ (P : Option Addr) (n c : Nat), e = .returned (.slice P n c) ∧ Below w.heap.size w w' ∧ w'.ownsRow w.heap.size 29 3 (.slice P n c) n (rowCells (withinP l s))

set_option maxHeartbeats 8000000 in
set_option maxRecDepth 100000 in
theorem within_calls {base : Nat} {w : World} {A : Option Addr} {n c : Nat} {l : List Rw} (hr : Rd base 29 w 3 A n c (rowCells l)) (hn : n ≤ 100000) (s : SpanR) :
    Calls Try.prog 32 #[.slice A n c, .agg s.enc.toArray] w (WithinPost w l s) := by
  have hcn := hr.count (enc := Rw.enc) (fun _ => rfl) (by omega)
  have R := Asd.mk hr
  have N := Asd.mk hcn
  clear hr hcn
  obtain ⟨f, t⟩ := s
  unfold SpanR.enc
  have hal : Below w.heap.size w (w.alloc (.cells #[.string f, .string t] 39)) := (Below.refl _ _).alloc (Nat.le_refl _) _
  have BX : Asd ((w.alloc (.cells #[.string f, .string t] 39)).cell? ⟨w.heap.size, 0, none⟩ = some (.string f) ∧ (w.alloc (.cells #[.string f, .string t] 39)).cell? ⟨w.heap.size, 1, none⟩ = some (.string t)) := ⟨(cell_of_row _ _ 0 _ _ _ (heap_alloc_new w _)).trans rfl, (cell_of_row _ _ 1 _ _ _ (heap_alloc_new w _)).trans rfl⟩
  have BZ : Asd (w.heap.size < (w.alloc (.cells #[.string f, .string t] 39)).heap.size) := ⟨by simp⟩
  have B0 := Asd.mk hal
  clear hal
  go_enter Try.func32, Try.ntmps32
  go_wp2_with fail
  generalize (w.alloc (.cells #[.string f, .string t] 39)) = w0 at *
  go_loopw [5, 10] (fun s5 s10 wr => ∃ (k no co : Nat) (Po : Option Addr), s5 = .slice Po no co ∧ s10 = .int .i64 k ∧ k ≤ n ∧ no ≤ k ∧ Asd (Below w0.heap.size w0 wr) ∧ Asd (wr.ownsRow w0.heap.size 29 3 (.slice Po no co) no (rowCells (withinP (l.take k) ⟨f, t⟩)))) (fun _ s10 _ => n - (intOf s10).toNat)
  case atStart => exact ⟨0, 0, 0, none, rfl, rfl, by omega, by omega, ⟨Below.refl _ _⟩, ⟨World.ownsRow_nil _ _ _ _⟩⟩
  case round =>
    obtain ⟨k, no, co, Po, rfl, rfl, hk, hno, BW, OW⟩ := hrel
    by_cases hlt : k < n
    · have hil : k < l.length := by have := N.out; omega
      obtain ⟨b, off, rfl, _, _, c0, c1, c2⟩ := (R.out.below (B0.out.trans (BW.out.mono B0.out.size))).row hlt
      have hcap : k < c := Nat.lt_of_lt_of_le hlt R.out.cap
      have hsn : withinP (l.take (k + 1)) ⟨f, t⟩ = withinP (l.take k) ⟨f, t⟩ ++ (if hasP l[k].key ⟨f, t⟩ = true then [l[k]] else []) := by
        rw [List.take_succ_eq_append_getElem hil, withinP_snoc]
      generalize l[k] = y at c0 c1 c2 hsn
      have SN := Asd.mk hsn
      have hal : Below wr.heap.size wr (wr.alloc (.cells #[.string y.key, .int .i64 y.stamp, .string y.val] 29)) := (Below.refl _ _).alloc (Nat.le_refl _) _
      have B4 := Asd.mk (BW.out.trans (hal.mono BW.out.size))
      have O4 := Asd.mk (OW.out.alloc (.cells #[.string y.key, .int .i64 y.stamp, .string y.val] 29))
      have X4 : Asd (Rd base 29 (wr.alloc (.cells #[.string y.key, .int .i64 y.stamp, .string y.val] 29)) 3 (some ⟨wr.heap.size, 0, none⟩) 1 1 (rowCells [y])) := ⟨Rd.new_ rfl rfl⟩
      have x0 : (wr.alloc (.cells #[.string y.key, .int .i64 y.stamp, .string y.val] 29)).cell? ⟨w.heap.size, 0, none⟩ = some (.string f) := ((bcell B4.out).1 w.heap.size 0 BZ.out).trans BX.out.1
      have x1 : (wr.alloc (.cells #[.string y.key, .int .i64 y.stamp, .string y.val] 29)).cell? ⟨w.heap.size, 1, none⟩ = some (.string t) := ((bcell B4.out).1 w.heap.size 1 BZ.out).trans BX.out.2
      clear hsn hal
      go_wp2_with fail
      have hb2 : Below (wr.alloc (.cells #[.string y.key, .int .i64 y.stamp, .string y.val] 29)).heap.size (wr.alloc (.cells #[.string y.key, .int .i64 y.stamp, .string y.val] 29)) ((wr.alloc (.cells #[.string y.key, .int .i64 y.stamp, .string y.val] 29)).alloc (.cells #[.string f, .string t] 39)) := (Below.refl _ _).alloc (Nat.le_refl _) _
      have XS : Asd (Rd base 39 ((wr.alloc (.cells #[.string y.key, .int .i64 y.stamp, .string y.val] 29)).alloc (.cells #[.string f, .string t] 39)) 2 (some ⟨wr.heap.size + 1, 0, none⟩) 1 1 (sCells [⟨f, t⟩])) := ⟨Rd.new2 (by simp) rfl rfl⟩
      have B5 := Asd.mk (B4.out.trans (hb2.mono B4.out.size))
      have O5 := Asd.mk (O4.out.alloc (.cells #[.string f, .string t] 39))
      have X5 := Asd.mk (X4.out.below hb2)
      clear hb2 x0 x1 c0 c1 c2 B4 O4 X4 BW OW
      generalize (wr.alloc (.cells #[.string y.key, .int .i64 y.stamp, .string y.val] 29)).alloc (.cells #[.string f, .string t] 39) = w5 at *
      generalize wr.heap.size = rb at *
      refine (Has_calls (base := base) (l := [⟨f, t⟩]) XS.out (by omega) y.key).mono ?_
      rw [show [(⟨f, t⟩ : SpanR)].any (hasP y.key) = hasP y.key ⟨f, t⟩ from by simp]
      rintro e w6 ⟨rfl, hb6⟩
      have B6 := Asd.mk (B5.out.trans (hb6.mono B5.out.size))
      have O6 := Asd.mk (O5.out.kept (gb_below hb6 none) (by cases (Value.slice Po no co).ownBlock <;> simp))
      have X6 := Asd.mk (X5.out.below hb6)
      have SIZ := Asd.mk B6.out.size
      clear hb6 B5 O5 X5 XS
      obtain ⟨d0, d1, d2⟩ := X6.out.row1
      cases hh : hasP y.key ⟨f, t⟩
      · have HH := Asd.mk hh
        clear hh
        have O8 : Asd (w6.ownsRow w0.heap.size 29 3 (.slice Po no co) no (rowCells (withinP (l.take (k + 1)) ⟨f, t⟩))) := ⟨by rw [SN.out, if_neg (by rw [HH.out]; decide), List.append_nil]; exact O6.out⟩
        go_wp2_with fail
        go_roundw
        case measure => simp [intOf]; omega
        case rel => exact ⟨k + 1, no, co, Po, rfl, by go_num, by omega, by omega, B6, O8⟩
      · have HH := Asd.mk hh
        clear hh
        have S2 : Asd (withinP (l.take (k + 1)) ⟨f, t⟩ = withinP (l.take k) ⟨f, t⟩ ++ [y]) := ⟨by rw [SN.out, if_pos HH.out]⟩
        go_wp2_with (at_builtin; go_loud (refine wpList_append_mine (base := base) (own := w0.heap.size) (n := no) (m := 1) (v := .slice Po no co) (xs := rowCells (withinP (l.take k) ⟨f, t⟩)) (ys := rowCells [y]) rfl (.tmp 19) (.tmp 21) 22 rfl elt_row rfl rfl (O6.out.alloc _) (Rd.new_ rfl rfl) (row_one _) (by unfold maxLen; omega) (by omega) (Nat.le_trans SIZ.out (by simp)) ?_; intro v8 w8 O8' G8'; obtain ⟨P8, c8, rfl, _⟩ := Rd.of_own (base := base) O8'; have O8 : Asd (w8.ownsRow w0.heap.size 29 3 (.slice P8 (no + 1) c8) (no + 1) (rowCells (withinP (l.take (k + 1)) ⟨f, t⟩))) := ⟨by have h := O8'; rw [S2.out]; unfold rowCells at h ⊢; rw [List.flatMap_append]; exact h⟩; have B8 := Asd.mk ((B6.out.alloc B6.out.size (.cells #[.string y.key, .int .i64 y.stamp, .string y.val] 29)).grown G8' (Nat.le_trans B6.out.size (by simp)) (fun j hj => (O6.out.lt j hj).1)); clear O8' G8'))
        go_roundw
        case measure => simp [intOf]; omega
        case rel => exact ⟨k + 1, no + 1, c8, P8, rfl, by go_num, by omega, by omega, B8, O8⟩
    · have O8 : Asd (wr.ownsRow w0.heap.size 29 3 (.slice Po no co) no (rowCells (withinP l ⟨f, t⟩))) := ⟨by
        have h := OW.out
        rwa [List.take_of_length_le (by have := N.out; omega)] at h⟩
      go_wp2_with fail
      go_ret
      exact ⟨Po, no, co, rfl, B0.out.trans (BW.out.mono B0.out.size), own_le' O8.out B0.out.size⟩
end Go.Proofs.Ytgiajfgeplekbaa

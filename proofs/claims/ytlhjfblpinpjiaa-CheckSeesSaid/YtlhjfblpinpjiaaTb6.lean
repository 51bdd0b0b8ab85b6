/- The table's reads: the ends of a span, the rows of a span. -/
import Derived.Test.YtlhjfblpinpjiaaTp
import Derived.Test.YtlhjfblpinpjiaaWe
set_option linter.unusedVariables false
set_option linter.unusedSimpArgs false
namespace Go.Proofs.Ytlhjfblpinpjiaa
open Go.RowKit

structure SpanR where
  from_ : ByteArray
  to_ : ByteArray
def SpanR.enc (s : SpanR) : List Value := [.string s.from_, .string s.to_]

theorem tup2 {a a' b b' : Int} (h1 : a = a') (h2 : b = b') : Ending.returned (.tuple #[.int .i64 a, .int .i64 b]) = Ending.returned (.tuple #[.int .i64 a', .int .i64 b']) := by rw [h1, h2]

/-- Where a span's rows begin and end. -/
def endsP (l : List Rw) (s : SpanR) : Nat × Nat :=
  (pos s.from_ l, max (pos s.from_ l) (if s.to_.size = 0 then l.length else pos s.to_ l))
theorem endsP_le (l : List Rw) (s : SpanR) : (endsP l s).1 ≤ (endsP l s).2 ∧ (endsP l s).2 ≤ l.length := by
  unfold endsP
  have h1 := pos_le s.from_ l
  have h2 := pos_le s.to_ l
  dsimp only
  split <;> omega

set_option maxHeartbeats 1000000 in
theorem ends_calls {base g c : Nat} {w : World} {l : List Rw} {A : Option Addr} (h : Tab base w g l A c) (s : SpanR) :
    Calls Try.prog 44 #[.pointer (some ⟨g, 0, none⟩), .agg s.enc.toArray] w fun e w' => e = .returned (.tuple #[.int .i64 (endsP l s).1, .int .i64 (endsP l s).2]) ∧ Below w.heap.size w w' := by
  obtain ⟨fr, to_⟩ := s
  unfold SpanR.enc
  have hat := fun (x : ByteArray) (W : World) (hb : Below w.heap.size w W) => at_calls (h.below hb) x
  have hcell := fun (W : World) (hb : Below w.heap.size w W) => (h.below hb).cell
  have AT := Asd.mk hat
  have CE := Asd.mk hcell
  have hl1 := pos_le fr l
  have hl2 := pos_le to_ l
  have hl4 : (l.length : Int) ≤ 4096 := by have := h.big; omega
  have p1 : (pos fr l : Int) ≤ 4096 := by omega
  have p2 : (pos to_ l : Int) ≤ 4096 := by omega
  clear h hat hcell hl1 hl2
  by_cases ht : to_.size = 0
  · have hto : to_.toList = [] := by rw [tl_nil]; exact ht
    have E1 := Asd.mk (show (endsP l ⟨fr, to_⟩).1 = pos fr l from rfl)
    have E2 := Asd.mk (show (((endsP l ⟨fr, to_⟩).2 : Nat) : Int) = max ((pos fr l : Nat) : Int) (l.length : Int) by show ((max (pos fr l) (if to_.size = 0 then l.length else pos to_ l) : Nat) : Int) = _; rw [if_pos ht]; omega)
    generalize endsP l ⟨fr, to_⟩ = ee at E1 E2
    clear ht
    go_enter Try.func44, Try.ntmps44
    go_wp2_with fail
    refine (AT.out fr _ ((Below.refl _ _).alloc (Nat.le_refl _) _)).mono ?_
    rintro e w1 ⟨rfl, hb1⟩
    obtain ⟨hc1, hf1⟩ := bcell hb1
    have hB : Below w.heap.size w w1 := ((Below.refl _ _).alloc (Nat.le_refl _) _).trans (hb1.mono (by simp))
    have hcg := CE.out w1 hB
    have BB := Asd.mk hB
    clear hB hb1
    go_wp2_with fail
    all_goals
      go_ret2
      exact ⟨tup2 (by rw [E1.out]) (by rw [E2.out]; omega), BB.out⟩
  · have hto : (to_.toList == []) = false := by rw [beq_eq_false_iff_ne, Ne, tl_nil]; exact ht
    have hto' : to_.toList.isEmpty = false := by rw [empty_eq]; simpa [-ByteArray.size_eq_zero_iff] using ht
    have E1 := Asd.mk (show (endsP l ⟨fr, to_⟩).1 = pos fr l from rfl)
    have E2 := Asd.mk (show (((endsP l ⟨fr, to_⟩).2 : Nat) : Int) = max ((pos fr l : Nat) : Int) ((pos to_ l : Nat) : Int) by show ((max (pos fr l) (if to_.size = 0 then l.length else pos to_ l) : Nat) : Int) = _; rw [if_neg ht]; omega)
    generalize endsP l ⟨fr, to_⟩ = ee at E1 E2
    clear ht
    go_enter Try.func44, Try.ntmps44
    go_wp2_with fail
    refine (AT.out fr _ ((Below.refl _ _).alloc (Nat.le_refl _) _)).mono ?_
    rintro e w1 ⟨rfl, hb1⟩
    obtain ⟨hc1, hf1⟩ := bcell hb1
    have hB : Below w.heap.size w w1 := ((Below.refl _ _).alloc (Nat.le_refl _) _).trans (hb1.mono (by simp))
    have hcg := CE.out w1 hB
    have BB := Asd.mk hB
    clear hB hb1
    go_wp2_with fail
    refine (AT.out to_ _ BB.out).mono ?_
    rintro e w2 ⟨rfl, hb2⟩
    have B2 := Asd.mk (BB.out.trans (hb2.mono BB.out.size))
    clear hb2
    go_wp2_with fail
    all_goals
      go_ret2
      exact ⟨tup2 (by rw [E1.out]) (by rw [E2.out]; omega), B2.out⟩

/-- The rows of a span. -/
def rowsP (l : List Rw) (s : SpanR) : List Rw := (l.drop (endsP l s).1).take ((endsP l s).2 - (endsP l s).1)
theorem rowsP_len (l : List Rw) (s : SpanR) : (rowsP l s).length = (endsP l s).2 - (endsP l s).1 := by
  have := endsP_le l s
  simp [rowsP]
  omega

set_option maxHeartbeats 1000000 in
theorem Rows_calls {base g c : Nat} {w : World} {l : List Rw} {A : Option Addr} (h : Tab base w g l A c) (s : SpanR) :
    Calls Try.prog 24 #[.pointer (some ⟨g, 0, none⟩), .agg s.enc.toArray] w fun e w' => ∃ A' c', e = .returned (.slice A' (rowsP l s).length c') ∧ Rd base 86 w' 3 A' (rowsP l s).length c' (rowCells (rowsP l s)) ∧
      w'.ownsRow w.heap.size 86 3 (.slice A' (rowsP l s).length c') (rowsP l s).length (rowCells (rowsP l s)) ∧ Below w.heap.size w w' := by
  have hen := fun (W : World) (hb : Below w.heap.size w W) => ends_calls (h.below hb) s
  have hcell := fun (W : World) (hb : Below w.heap.size w W) => (h.below hb).cell
  have hle := endsP_le l s
  have hcl := fun (W : World) (hb : Below w.heap.size w W) => Clone_row (base := base) W _ _ _ _ ((h.below hb).rd.cut (lo := (endsP l s).1) (hi := (endsP l s).2) (c' := c) hle.1 hle.2 (Nat.le_trans hle.2 h.rd.cap) (Nat.le_refl _)) (by
    rw [show (rowCells l).drop ((endsP l s).1 * 3) = rowCells (l.drop (endsP l s).1) from flat_drop Rw.enc 3 (fun _ => rfl) l _, show (rowCells (l.drop (endsP l s).1)).take _ = rowCells _ from flat_take Rw.enc 3 (fun _ => rfl) _ _]
    exact row_one _) (by have := h.big; omega)
  rw [show (rowCells l).drop ((endsP l s).1 * 3) = rowCells (l.drop (endsP l s).1) from flat_drop Rw.enc 3 (fun _ => rfl) l _, show (rowCells (l.drop (endsP l s).1)).take _ = rowCells (rowsP l s) from flat_take Rw.enc 3 (fun _ => rfl) _ _, ← rowsP_len] at hcl
  have hcc := h.rd.cap
  have EN := Asd.mk hen
  have CE := Asd.mk hcell
  have CL := Asd.mk hcl
  have RL := Asd.mk (rowsP_len l s)
  have i1 : (endsP l s).1 ≤ (endsP l s).2 := hle.1
  have i2 : (endsP l s).2 ≤ c := Nat.le_trans hle.2 hcc
  generalize endsP l s = ee at *
  generalize rowsP l s = rr at *
  unfold SpanR.enc at *
  obtain ⟨lo, hi⟩ := ee
  simp only at *
  clear h hen hcell hcl hle
  have fin : ∀ (W W' : World) (e : Ending), Below w.heap.size w W → (∃ A' c', e = .returned (.slice A' rr.length c') ∧ Rd base 86 W' 3 A' rr.length c' (rowCells rr) ∧ W'.ownsRow W.heap.size 86 3 (.slice A' rr.length c') rr.length (rowCells rr) ∧ Below W.heap.size W W') →
      (∃ A' c', e = .returned (.slice A' rr.length c') ∧ Rd base 86 W' 3 A' rr.length c' (rowCells rr) ∧ W'.ownsRow w.heap.size 86 3 (.slice A' rr.length c') rr.length (rowCells rr) ∧ Below w.heap.size w W') := by
    rintro W W' e hW ⟨A', c', h1, h2, h3, h4⟩
    refine ⟨A', c', h1, h2, ⟨h3.1, h3.2.imp id ?_⟩, hW.trans (h4.mono hW.size)⟩
    rintro ⟨g', cap, cur, q1, q2, q3⟩
    exact ⟨g', cap, cur, q1, Nat.le_trans hW.size q2, q3⟩
  have FIN := Asd.mk fin
  clear fin
  by_cases hcl : c = lo
  · have CL2 := Asd.mk (fun (W : World) (hW : Below w.heap.size w W) => (by have := (CL.out W hW).mono (fun e W' => FIN.out W W' e hW); rw [if_pos hcl, show c - lo = 0 by omega] at this; exact this : Calls Try.prog 45 #[.slice A rr.length 0] W _))
    have hl0 : rr.length = 0 := by rw [RL.out]; omega
    rw [hl0] at CL2
    obtain rfl : hi = lo := by omega
    subst hcl
    have RL := Asd.mk hl0
    clear hl0
    go_enter Try.func24, Try.ntmps24
    go_wp2_with fail
    refine (EN.out _ ((Below.refl _ _).alloc (Nat.le_refl _) _)).mono ?_
    rintro e w1 ⟨rfl, hb1⟩
    have hB : Below w.heap.size w w1 := ((Below.refl _ _).alloc (Nat.le_refl _) _).trans (hb1.mono (by simp))
    have hcg := CE.out w1 hB
    have BB := Asd.mk hB
    clear hB hb1
    go_wp2_with fail
    refine (CL2.out _ BB.out).mono ?_
    rintro e w2 ⟨A', c', rfl, h1, h2, h3⟩
    have F := Asd.mk (And.intro h1 (And.intro h2 h3))
    clear h1 h2 h3
    go_wp2_with fail
    go_ret
    rw [RL.out]
    exact ⟨A', c', rfl, F.out.1, F.out.2.1, F.out.2.2⟩
  · have CL2 := Asd.mk (fun (W : World) (hW : Below w.heap.size w W) => (by have := (CL.out W hW).mono (fun e W' => FIN.out W W' e hW); rw [if_neg hcl] at this; exact this : Calls Try.prog 45 #[.slice (A.map (·.add (lo * 3))) rr.length (c - lo)] W _))
    rw [RL.out] at CL2
    go_enter Try.func24, Try.ntmps24
    go_wp2_with fail
    refine (EN.out _ ((Below.refl _ _).alloc (Nat.le_refl _) _)).mono ?_
    rintro e w1 ⟨rfl, hb1⟩
    have hB : Below w.heap.size w w1 := ((Below.refl _ _).alloc (Nat.le_refl _) _).trans (hb1.mono (by simp))
    have hcg := CE.out w1 hB
    have BB := Asd.mk hB
    clear hB hb1
    go_wp2_with fail
    refine (CL2.out _ BB.out).mono ?_
    rintro e w2 ⟨A', c', rfl, h1, h2, h3⟩
    have F := Asd.mk (And.intro h1 (And.intro h2 h3))
    clear h1 h2 h3
    go_wp2_with fail
    go_ret
    rw [RL.out]
    exact ⟨A', c', rfl, F.out.1, F.out.2.1, F.out.2.2⟩
end Go.Proofs.Ytlhjfblpinpjiaa

/- The book: rows spoilt. -/
import Derived.Test.YtgiajfgeplekbaaP3
set_option linter.unusedVariables false
set_option linter.unusedSimpArgs false
namespace Go.Proofs.Ytgiajfgeplekbaa
open Go.RowKit

/-- But for block g all is as it was. -/
structure But (g : Nat) (w w' : World) : Prop where
  os : w'.os = w.os
  tape : w'.tape = w.tape
  output : w'.output = w.output
  size : w'.heap.size = w.heap.size
  block : ∀ k, k ≠ g → w'.heap[k]? = w.heap[k]?
theorem But.refl (g : Nat) (w : World) : But g w w := ⟨rfl, rfl, rfl, rfl, fun _ _ => rfl⟩
theorem But.set {g : Nat} {w w' : World} (h : But g w w') (j : Nat) (u : Value) : But g w (w'.setCell ⟨g, j, none⟩ u) :=
  ⟨h.os, h.tape, h.output, by rw [← h.size]; simp [World.setCell], fun k hk => (Below.heap_setCell w' ⟨g, j, none⟩ u k hk).trans (h.block k hk)⟩
theorem But.below {g own : Nat} {w w' : World} (h : But g w w') (hg : own ≤ g) : Below own w w' := ⟨h.os, h.tape, h.output, by rw [h.size]; exact Nat.le_refl _, fun k hk => h.block k (by omega)⟩
theorem But.own {g : Nat} {w w' : World} (h : But g w w') {b e k n : Nat} {v : Value} {xs : List Value} (hO : w.ownsRow b e k v n xs) (hg : ∀ j, v.ownBlock = some j → j ≠ g) : w'.ownsRow b e k v n xs := by
  refine ⟨hO.1, hO.2.imp id ?_⟩
  rintro ⟨g', cap, cur, rfl, hb, hh, rest⟩
  exact ⟨g', cap, cur, rfl, hb, (h.block g' (hg g' rfl)).trans hh, rest⟩
theorem put_row {w : World} {g : Nat} {cs : Array Value} {T : TypeId} (h : w.heap[g]? = some (.cells cs T (0, 0))) (j : Nat) (u : Value) : (w.setCell ⟨g, j, none⟩ u).heap[g]? = some (.cells (cs.setIfInBounds j u) T (0, 0)) := by
  simp only [World.setCell, Array.getElem?_modify, h, if_true]
  rfl
theorem own_capmax {w : World} {b e k n c : Nat} {A : Option Addr} {xs : List Value} (h : w.ownsRow b e k (.slice A n c) n xs) : c ≤ 9223372036854775807 := by
  rcases h.2 with ⟨h1, _⟩ | ⟨g, cap, cur, hv, _, _, _, h2, _⟩
  · injection h1 with _ _ h1
    omega
  · injection hv with _ _ hv
    subst hv
    unfold maxLen at h2
    omega
def SpoilPost (w : World) (v : Value) (e : Ending) (w' : World) : Prop := e = .returned (.tuple #[]) ∧ (w' = w ∨ ∃ g, v.ownBlock = some g ∧ But g w w')

set_option maxHeartbeats 2000000 in
theorem SpoilRows_calls {w : World} {own : Nat} {A : Option Addr} {n c : Nat} {xs : List Value} (hO : w.ownsRow own 29 3 (.slice A n c) n xs) (hbig : c ≤ 9223372036854775807) :
    Calls Try.prog 31 #[.slice A n c] w (SpoilPost w (.slice A n c)) := by
  rcases hO.2 with ⟨hv, hn0⟩ | ⟨g, cap, cur, hv, hb, hh, h1, h2, h3, h4⟩
  · injection hv with hv1 hv2 hv3
    subst hv1 hv2 hv3
    clear hO
    go_enter Try.func31, Try.ntmps31
    go_wp2_with fail
    go_loopw [2] (fun s2 wr => s2 = .int .i64 0 ∧ Asd (wr = w)) (fun _ _ => 0)
    case atStart => exact ⟨rfl, ⟨rfl⟩⟩
    case round =>
      obtain ⟨rfl, HW⟩ := hrel
      have hw := HW.out
      go_wp2_with fail
      go_end0
      exact ⟨rfl, .inl rfl⟩
  · injection hv with hv1 hv2 hv3
    subst hv1 hv3
    have CUR : Asd (∃ cs : Array Value, cs.size = c * 3 ∧ w.heap[g]? = some (.cells cs 29 (0, 0))) := ⟨cur, h3, hh⟩
    clear hO hh h3 h4 hb
    go_enter Try.func31, Try.ntmps31
    go_wp2_with fail
    go_loopw [2] (fun s2 wr => ∃ i : Nat, s2 = .int .i64 i ∧ i ≤ c ∧ Asd (But g w wr) ∧ Asd (∃ cs : Array Value, cs.size = c * 3 ∧ wr.heap[g]? = some (.cells cs 29 (0, 0)))) (fun s2 _ => c - (intOf s2).toNat)
    case atStart => exact ⟨0, rfl, Nat.zero_le _, ⟨But.refl _ _⟩, CUR⟩
    case round =>
      clear CUR
      obtain ⟨i, rfl, hi, BW, CUR⟩ := hrel
      by_cases hlt : i < c
      · obtain ⟨cs, hcs, hh⟩ := CUR.out
        have c0 : wr.cell? ⟨g, i * 3, none⟩ = some cs[i * 3] := (cell_of_row _ _ _ _ _ _ hh).trans (Array.getElem?_eq_getElem (by omega))
        have c1 : wr.cell? ⟨g, i * 3 + 1, none⟩ = some cs[i * 3 + 1] := (cell_of_row _ _ _ _ _ _ hh).trans (Array.getElem?_eq_getElem (by omega))
        have c2 : wr.cell? ⟨g, i * 3 + 2, none⟩ = some cs[i * 3 + 2] := (cell_of_row _ _ _ _ _ _ hh).trans (Array.getElem?_eq_getElem (by omega))
        have f0 : wr.frozen? ⟨g, i * 3, none⟩ = false := frozen_of_row _ _ _ _ _ hh
        have f1 : wr.frozen? ⟨g, i * 3 + 1, none⟩ = false := frozen_of_row _ _ _ _ _ hh
        have f2 : wr.frozen? ⟨g, i * 3 + 2, none⟩ = false := frozen_of_row _ _ _ _ _ hh
        generalize cs[i * 3] = v0 at c0
        generalize cs[i * 3 + 1] = v1 at c1
        generalize cs[i * 3 + 2] = v2 at c2
        have HH := Asd.mk hh
        have HC := Asd.mk hcs
        clear hh hcs CUR
        go_wp2_with fail
        go_roundw
        case measure => simp [intOf]; omega
        case rel => exact ⟨i + 1, by go_num, by omega, ⟨((BW.out.set _ _).set _ _).set _ _⟩, ⟨_, by rw [Array.size_setIfInBounds, Array.size_setIfInBounds, Array.size_setIfInBounds]; exact HC.out, put_row (put_row (put_row HH.out _ _) _ _) _ _⟩⟩
      · go_wp2_with fail
        go_end0
        exact ⟨rfl, .inr ⟨g, rfl, BW.out⟩⟩
end Go.Proofs.Ytgiajfgeplekbaa

/- Digests' closure: is a row's key outside part i? -/
import Derived.Test.YtgiajfgeplekbaaH2
import Derived.Test.YtgiajfgeplekbaaH3
set_option linter.unusedVariables false
set_option linter.unusedSimpArgs false
namespace Go.Proofs.Ytgiajfgeplekbaa
open Go.RowKit

set_option maxHeartbeats 4000000 in
theorem out_calls {base : Nat} {w : World} {A : Option Addr} {m c : Nat} {ps : List SpanR} (hr : Rd base 39 w 2 A m c (sCells ps)) (hm : m ≤ 100000) {pb ib i : Nat} (hi : i < m) (hil : i < ps.length)
    (hp : w.cell? ⟨pb, 0, none⟩ = some (.slice A m c)) (hk : w.cell? ⟨ib, 0, none⟩ = some (.int .i64 i)) (hpb : pb < w.heap.size) (hib : ib < w.heap.size) (r : Rw) :
    Calls Try.prog 42 #[.agg r.enc.toArray, .pointer (some ⟨pb, 0, none⟩), .pointer (some ⟨ib, 0, none⟩)] w fun e w' => e = .returned (.bool (!hasP r.key ps[i])) ∧ Below w.heap.size w w' := by
  obtain ⟨b, off, rfl, hbl, _⟩ := hr.at_ (show 0 < m by omega)
  have hone := Rd.one_ (enc := SpanR.enc) hr (fun _ => rfl) hi hil
  have hcap := hr.cap
  generalize ps[i] = s at hone ⊢
  obtain ⟨k, st, v⟩ := r
  unfold Rw.enc
  have hal : Below w.heap.size w (w.alloc (.cells #[.string k, .int .i64 st, .string v] 29)) := (Below.refl _ _).alloc (Nat.le_refl _) _
  have q0 : (w.alloc (.cells #[.string k, .int .i64 st, .string v] 29)).cell? ⟨pb, 0, none⟩ = some (.slice (some ⟨b, off, none⟩) m c) := ((bcell hal).1 pb 0 hpb).trans hp
  have q1 : (w.alloc (.cells #[.string k, .int .i64 st, .string v] 29)).cell? ⟨ib, 0, none⟩ = some (.int .i64 i) := ((bcell hal).1 ib 0 hib).trans hk
  have q2 : (w.alloc (.cells #[.string k, .int .i64 st, .string v] 29)).cell? ⟨w.heap.size, 0, none⟩ = some (.string k) := (cell_of_row _ _ 0 _ _ _ (heap_alloc_new w _)).trans rfl
  have ON := Asd.mk (hone.below hal)
  have B0 := Asd.mk hal
  have hk1 : i < c := by omega
  have hk2 : ¬ c = i := by omega
  have hbd : (0 : Int) ≤ (i : Int) ∧ (i : Int) ≤ (i : Int) + 1 ∧ (i : Int) + 1 ≤ (c : Int) ∧ (i : Int) + 1 ≤ (m : Int) := by omega
  have hw2 : IntKind.i64.wrap ((i : Int) + 1) = (i : Int) + 1 := IntWalk.i64_in _ (by omega)
  have hw1 : wrap64 ((i : Int) + 1) = (i : Int) + 1 := (wrapIn (by omega)).1
  clear hr hone hal hp hk hpb hib hbl
  go_enter Try.func42, Try.ntmps42
  go_wp2_with fail
  generalize (w.alloc (.cells #[.string k, .int .i64 st, .string v] 29)) = w1 at *
  go_region_with (first | (go_at_call 15; refine (Has_calls (base := base) (n := 1) (c := c - i) (l := [s]) (by simpa [sCells] using ON.out.below ((Below.refl _ _).drew)) (by omega) k).mono ?_; rw [show [s].any (hasP k) = hasP k s from by simp]; rintro e w5 ⟨rfl, hb5⟩; have B5 := Asd.mk ((B0.out.drew).trans (hb5.mono B0.out.size)); clear hb5))
  all_goals
    go_wp2_with fail
    go_ret
    exact ⟨rfl, B5.out⟩
end Go.Proofs.Ytgiajfgeplekbaa

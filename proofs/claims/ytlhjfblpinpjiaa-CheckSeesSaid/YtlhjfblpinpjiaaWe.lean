/- More words on memory. -/
import Derived.Test.YtlhjfblpinpjiaaWd
set_option linter.unusedVariables false
set_option linter.unusedSimpArgs false
namespace Go.Proofs.Ytlhjfblpinpjiaa
open Go.RowKit

theorem bcell {W w1 : World} (hb : Below W.heap.size W w1) : (∀ b o, b < W.heap.size → w1.cell? ⟨b, o, none⟩ = W.cell? ⟨b, o, none⟩) ∧ (∀ b o, b < W.heap.size → w1.frozen? ⟨b, o, none⟩ = W.frozen? ⟨b, o, none⟩) :=
  ⟨fun b o h => hb.cell (p := ⟨b, o, none⟩) h, fun b o h => hb.frozen (p := ⟨b, o, none⟩) h⟩

theorem below_dn {B : Nat} (w : World) (n : Nat) : Below B w (w.drewN n) := ⟨rfl, rfl, rfl, Nat.le_refl _, fun _ _ => rfl⟩
theorem gb_set {w W : World} {r : Option Nat} (h : w.grownBy W r) {p : Addr} (hp : w.heap.size ≤ p.block) (u : Value) : w.grownBy (W.setCell p u) r :=
  ⟨h.os, h.tape, h.output, by simpa [World.setCell] using h.size, fun k hk hne => (Below.heap_setCell W p u k (by omega)).trans (h.block k hk hne)⟩
theorem gb_below {w W : World} (h : Below w.heap.size w W) (r : Option Nat) : w.grownBy W r := ⟨h.os, h.tape, h.output, h.size, fun k hk _ => h.block k hk⟩
theorem gb_trans {w W V : World} {r : Option Nat} (h : w.grownBy W r) (k : W.grownBy V r) : w.grownBy V r :=
  ⟨k.os.trans h.os, k.tape.trans h.tape, k.output.trans h.output, Nat.le_trans h.size k.size, fun i hi hne => (k.block i (Nat.lt_of_lt_of_le hi h.size) hne).trans (h.block i hi hne)⟩

/-- Block r is cells of type U. -/
def IsT (w : World) (r : Nat) (U : TypeId) : Prop := ∃ cs fr, w.heap[r]? = some (.cells cs U fr)
theorem IsT.set {w : World} {r : Nat} {U : TypeId} (h : IsT w r U) (p : Addr) (u : Value) : IsT (w.setCell p u) r U := by
  obtain ⟨cs, fr, e⟩ := h
  by_cases hp : r = p.block
  · subst hp
    exact ⟨_, fr, by simp only [World.setCell, Array.getElem?_modify, e]; rfl⟩
  · exact ⟨cs, fr, (Below.heap_setCell w p u r hp).trans e⟩
theorem IsT.of_block {w W : World} {r : Nat} {U : TypeId} (h : IsT w r U) (e : W.heap[r]? = w.heap[r]?) : IsT W r U := by
  obtain ⟨cs, fr, h⟩ := h
  exact ⟨cs, fr, e.trans h⟩
theorem IsT.lt {w : World} {r : Nat} {U : TypeId} (h : IsT w r U) : r < w.heap.size := by
  obtain ⟨cs, fr, h⟩ := h
  exact (Array.getElem?_eq_some_iff.1 h).1
end Go.Proofs.Ytlhjfblpinpjiaa

/- One operation of a table: words. -/
import Derived.Test.YtlhjfblpinpjiaaTb5
import Derived.Test.YtlhjfblpinpjiaaTb6
set_option linter.unusedVariables false
set_option linter.unusedSimpArgs false
namespace Go.Proofs.Ytlhjfblpinpjiaa
open Go.RowKit

theorem own_set {w : World} {b e k n : Nat} {v : Value} {xs : List Value} (h : w.ownsRow b e k v n xs) {p : Addr} {U : TypeId} (hT : IsT w p.block U) (hU : U ≠ e) (u : Value) : (w.setCell p u).ownsRow b e k v n xs := by
  refine ⟨h.1, ?_⟩
  rcases h.2 with hn | ⟨g, cap, cur, rfl, hb, hgg, rest⟩
  · exact .inl hn
  · refine .inr ⟨g, cap, cur, rfl, hb, ?_, rest⟩
    obtain ⟨cs, fr, hc⟩ := hT
    rw [Below.heap_setCell w p u g (by
      rintro rfl
      rw [hgg] at hc
      injection hc with hc
      injection hc with _ hc
      exact hU hc.symm)]
    exact hgg
theorem own_le {w : World} {b b' e k n : Nat} {v : Value} {xs : List Value} (h : w.ownsRow b e k v n xs) (hb : b' ≤ b) : w.ownsRow b' e k v n xs :=
  ⟨h.1, h.2.imp id fun ⟨g, cap, cur, h1, h2, h3⟩ => ⟨g, cap, cur, h1, Nat.le_trans hb h2, h3⟩⟩
theorem own_set4 {w : World} {b e k n : Nat} {v : Value} {xs : List Value} (h : w.ownsRow b e k v n xs) {r : Nat} {U : TypeId} (hT : IsT w r U) (hU : U ≠ e) (u0 u1 u2 u3 : Value) :
    ((((w.setCell ⟨r, 0, none⟩ u0).setCell ⟨r, 1, none⟩ u1).setCell ⟨r, 2, none⟩ u2).setCell ⟨r, 3, none⟩ u3).ownsRow b e k v n xs :=
  own_set (own_set (own_set (own_set h (p := ⟨r, 0, none⟩) hT hU u0) (p := ⟨r, 1, none⟩) (hT.set _ _) hU u1) (p := ⟨r, 2, none⟩) ((hT.set _ _).set _ _) hU u2) (p := ⟨r, 3, none⟩) (((hT.set _ _).set _ _).set _ _) hU u3
theorem Rd.set {base T : Nat} {w : World} {k n c : Nat} {A : Option Addr} {xs : List Value} (h : Rd base T w k A n c xs) {p : Addr} {U : TypeId} (hT : IsT w p.block U) (hU : U ≠ T) (hge : base ≤ p.block) (u : Value) : Rd base T (w.setCell p u) k A n c xs := by
  obtain ⟨cs, fr, e⟩ := hT
  exact h.setCell e hU hge u
theorem Rd.set4 {base T : Nat} {w : World} {k n c : Nat} {A : Option Addr} {xs : List Value} (h : Rd base T w k A n c xs) {r : Nat} {U : TypeId} (hT : IsT w r U) (hU : U ≠ T) (hge : base ≤ r) (u0 u1 u2 u3 : Value) :
    Rd base T ((((w.setCell ⟨r, 0, none⟩ u0).setCell ⟨r, 1, none⟩ u1).setCell ⟨r, 2, none⟩ u2).setCell ⟨r, 3, none⟩ u3) k A n c xs :=
  (((h.set (p := ⟨r, 0, none⟩) hT hU hge u0).set (p := ⟨r, 1, none⟩) (hT.set _ _) hU hge u1).set (p := ⟨r, 2, none⟩) ((hT.set _ _).set _ _) hU hge u2).set (p := ⟨r, 3, none⟩) (((hT.set _ _).set _ _).set _ _) hU hge u3

/-- What a result looks like, its rows at A1, n1, c1. -/
def Res.raw (r : Res) (A1 : Option Addr) (n1 c1 : Nat) : Value := .agg #[.int .i64 r.code, .int .i64 r.stamp, .string r.val, .slice A1 n1 c1]
def OnePost (base : Nat) (w : World) (A : Option Addr) (g : Nat) (p : List Rw × Res) (e : Ending) (w' : World) : Prop :=
  ∃ A1 n1 c1, e = .returned (p.2.raw A1 n1 c1) ∧ w.grownBy w' (some g) ∧ (∃ A' c', Tab base w' g p.1 A' c' ∧ Fr w A A' ∧ (A1 = none ∨ A' = A)) ∧ Rd base 86 w' 3 A1 n1 c1 (rowCells p.2.rows) ∧ w'.ownsRow w.heap.size 86 3 (.slice A1 n1 c1) n1 (rowCells p.2.rows)

theorem OnePost.flat {base g : Nat} {A : Option Addr} {w w' : World} {l : List Rw} {r : Res} {e : Ending} (he : e = .returned r.flat) (hr : r.rows = []) (hg : w.grownBy w' (some g)) (ht : ∃ A' c', Tab base w' g l A' c' ∧ Fr w A A') : OnePost base w A g (l, r) e w' := by
  obtain ⟨A', c', h1, h2⟩ := ht
  refine ⟨none, 0, 0, he, hg, ⟨A', c', h1, h2, .inl rfl⟩, ?_, ?_⟩
  · rw [show (l, r).2.rows = [] from hr]; exact Rd.none_
  · rw [show (l, r).2.rows = [] from hr]; exact World.ownsRow_nil _ _ _ _

theorem one_fin {base g c : Nat} {w w2 : World} {l : List Rw} {A : Option Addr} (h : Tab base w g l A c) (hb : Below w.heap.size w w2) (hT : IsT w2 (w.heap.size + 1) 47) (r : Res) (hr : r.rows = []) (u0 u1 u2 u3 : Value) :
    OnePost base w A g (l, r) (.returned r.flat) ((((w2.setCell ⟨w.heap.size + 1, 0, none⟩ u0).setCell ⟨w.heap.size + 1, 1, none⟩ u1).setCell ⟨w.heap.size + 1, 2, none⟩ u2).setCell ⟨w.heap.size + 1, 3, none⟩ u3) :=
  OnePost.flat rfl hr (gb_set (gb_set (gb_set (gb_set (gb_below hb _) (by simp) _) (by simp) _) (by simp) _) (by simp) _) ⟨A, _, (h.below hb).set4 hT (by decide) (by decide) (by have := h.ge; have := h.lt; omega) _ _ _ _, .inl rfl⟩

end Go.Proofs.Ytlhjfblpinpjiaa

/- Arguments opened: lists of lists of operations. -/
import Derived.Test.YtlhjfblpinpjiaaAr
import Derived.Test.YtlhjfblpinpjiaaTl2
set_option linter.unusedVariables false
set_option linter.unusedSimpArgs false
namespace Go.Proofs.Ytlhjfblpinpjiaa
open Go.RowKit Go.ChangeShapes Go.WideShapes Go.ChangeAt Go.Deep

theorem all2_of {α β : Type} {R : α → β → Prop} : ∀ (l : List α) (m : List β), l.length = m.length → (∀ i (h1 : i < l.length) (h2 : i < m.length), R l[i] m[i]) → All2 R l m
  | [], [], _, _ => trivial
  | a :: l, b :: m, hl, h => ⟨h 0 (by simp) (by simp), all2_of l m (by simpa using hl) (fun i h1 h2 => h (i + 1) (by simpa using h1) (by simpa using h2))⟩
  | [], _ :: _, hl, _ => by simp at hl
  | _ :: _, [], hl, _ => by simp at hl

section
variable {H : Type} {enc : TypeId × Value → H} {w : World} {base : Nat} {spare : Nat → Bool} {held : Bool}
theorem fields_of {P : Program} {t : TypeId} {fs : Array Field} {fuel : Nat} {cs : List Value} {x : DataW H × List MemPlace} (he : P.underlying t = some (.struct fs)) (hone : oneCellFields P fs = true) (hl : cs.length = fs.size)
    (h : DataW.trod enc P w base spare held fuel t cs = some x) : ∀ (j : Nat) (f : Field), fs[j]? = some f → ∃ (v : Value) (n : Nat) (y : DataW H × List MemPlace), cs[j]? = some v ∧ DataW.trod enc P w base spare held n f.type [v] = some y := by
  intro j f hj
  obtain ⟨ys, n', hn', hy, hlen, hyl, hf⟩ := DataW.trod_struct he h
  obtain ⟨ho, hk⟩ := hone_of hone j f hj
  have hjl : j < fs.size := (Array.getElem?_eq_some_iff.1 hj).1
  have hv : cs[j]? = some (cs[j]'(by omega)) := List.getElem?_eq_getElem (by omega)
  have h1 := hf j f hj
  rw [ho, hk] at h1
  have hone' : (cs.drop j).take 1 = [cs[j]'(by omega)] := by
    rw [List.drop_eq_getElem_cons (by omega)]
    rfl
  rw [hone'] at h1
  have hys : ys[j]? = some (ys[j]'(by omega)) := List.getElem?_eq_getElem (by omega)
  exact ⟨_, _, _, hv, h1.trans hys⟩
set_option maxRecDepth 100000 in
theorem open_op {r : Reach} {b0 : Nat} {v : Value} {d : DataW H} {p : List MemPlace} (hv : Value.okWide Try.prog w r b0 64 v) (h : DataW.Trod enc Try.prog w base spare held 64 v d p) :
    ∃ x : OpR, v = .agg x.enc.toArray ∧ FitsR x := by
  obtain ⟨cs, rfl, hsz⟩ := okWide_struct Try.underlying64 hv
  obtain ⟨l⟩ := cs
  obtain ⟨fuel, hf⟩ := h
  have hl6 : l.length = 6 := hsz.trans (show Try.prog.cellsOf 64 = 6 by kernel_rfl)
  have F := fields_of Try.underlying64 (by kernel_rfl) (show (Value.agg ⟨l⟩).cells.toList.length = _ from hl6) hf
  match l, hl6 with
  | [c0, c1, c2, c3, c4, c5], _ =>
    obtain ⟨v0, n0, y0, k0, t0⟩ := F 0 _ rfl
    obtain ⟨v1, n1, y1, k1, t1⟩ := F 1 _ rfl
    obtain ⟨v2, n2, y2, k2, t2⟩ := F 2 _ rfl
    obtain ⟨v3, n3, y3, k3, t3⟩ := F 3 _ rfl
    obtain ⟨v4, n4, y4, k4, t4⟩ := F 4 _ rfl
    obtain ⟨v5, n5, y5, k5, t5⟩ := F 5 _ rfl
    injection k0 with k0; injection k1 with k1; injection k2 with k2; injection k3 with k3; injection k4 with k4; injection k5 with k5
    subst k0 k1 k2 k3 k4 k5
    obtain ⟨z0, e0, _, _⟩ := DataW.trod_int (k := .i64) (by kernel_rfl) t0
    obtain ⟨z1, e1, _, f1⟩ := DataW.trod_string (by kernel_rfl) t1
    obtain ⟨z2, e2, _, f2⟩ := DataW.trod_string (by kernel_rfl) t2
    obtain ⟨z3, e3, _, _⟩ := DataW.trod_int (k := .i64) (by kernel_rfl) t3
    obtain ⟨z4, e4, _, _⟩ := DataW.trod_int (k := .i64) (by kernel_rfl) t4
    obtain ⟨z5, e5, _, _⟩ := DataW.trod_int (k := .i64) (by kernel_rfl) t5
    injection e0 with e0 _; injection e1 with e1 _; injection e2 with e2 _; injection e3 with e3 _; injection e4 with e4 _; injection e5 with e5 _
    subst e0 e1 e2 e3 e4 e5
    exact ⟨⟨z0, z1, z2, z3, z4, z5⟩, rfl, by unfold maxLen at f1; omega, by unfold maxLen at f2; omega⟩
end
end Go.Proofs.Ytlhjfblpinpjiaa

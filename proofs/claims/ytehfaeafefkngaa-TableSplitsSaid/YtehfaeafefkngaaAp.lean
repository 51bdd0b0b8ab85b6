/- An argument opened: a span. -/
import Derived.Test.YtehfaeafefkngaaAs
import Derived.Test.YtehfaeafefkngaaTb6
set_option linter.unusedVariables false
set_option linter.unusedSimpArgs false
namespace Go.Proofs.Ytehfaeafefkngaa
open Go.RowKit Go.ChangeShapes Go.WideShapes Go.ChangeAt Go.Deep
section
variable {H : Type} {enc : TypeId × Value → H} {w : World} {base : Nat} {spare : Nat → Bool} {held : Bool}
set_option maxRecDepth 100000 in
theorem open_span {r : Reach} {b0 : Nat} {v : Value} {d : DataW H} {p : List MemPlace} (hv : Value.okWide Try.prog w r b0 46 v) (h : DataW.Trod enc Try.prog w base spare held 46 v d p) :
    ∃ x : SpanR, v = .agg x.enc.toArray := by
  obtain ⟨cs, rfl, hsz⟩ := okWide_struct Try.underlying46 hv
  obtain ⟨l⟩ := cs
  obtain ⟨fuel, hf⟩ := h
  have hl2 : l.length = 2 := hsz.trans (show Try.prog.cellsOf 46 = 2 by kernel_rfl)
  have F := fields_of Try.underlying46 (by kernel_rfl) (show (Value.agg ⟨l⟩).cells.toList.length = _ from hl2) hf
  match l, hl2 with
  | [c0, c1], _ =>
    obtain ⟨v0, n0, y0, k0, t0⟩ := F 0 _ rfl
    obtain ⟨v1, n1, y1, k1, t1⟩ := F 1 _ rfl
    injection k0 with k0; injection k1 with k1
    subst k0 k1
    obtain ⟨z0, e0, _, f0⟩ := DataW.trod_string (by kernel_rfl) t0
    obtain ⟨z1, e1, _, f1⟩ := DataW.trod_string (by kernel_rfl) t1
    injection e0 with e0 _; injection e1 with e1 _
    subst e0 e1
    exact ⟨⟨z0, z1⟩, rfl⟩
end
end Go.Proofs.Ytehfaeafefkngaa

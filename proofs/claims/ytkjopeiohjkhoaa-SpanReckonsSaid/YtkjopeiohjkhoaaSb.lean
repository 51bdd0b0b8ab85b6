/- An argument opened: how long a slice is, for its size's bound. -/
import Derived.Test.YtkjopeiohjkhoaaSa
import Derived.SizedLaws
set_option linter.unusedVariables false
set_option linter.unusedSimpArgs false
namespace Go.Proofs.Ytkjopeiohjkhoaa
open Go.RowKit Go.ChangeShapes Go.WideShapes Go.ChangeAt Go.Deep
section
variable {H : Type} {enc : TypeId × Value → H} {P : Program} {w : World} {base : Nat} {spare : Nat → Bool} {held : Bool}
theorem open_len {t e : TypeId} (ht : P.underlying t = some (.slice e)) {fuel : Nat} {cs : List Value} {x : DataW H × List MemPlace} (h : DataW.trod enc P w base spare held fuel t cs = some x)
    {A : Option Addr} {n c : Nat} (hcs : cs = [.slice A n c]) : n = 0 ∨ ∃ es rest, x.1 = .slice es rest ∧ es.length = n := by
  rcases open_slice ht h with ⟨h0, _⟩ | ⟨a, len, cap, m, n', D, Pl, h0, hb, hl, hm, hmm, hx, hi⟩
  · rw [hcs] at h0
    injection h0 with h0 _
    injection h0 with _ h1 _
    exact .inl h1
  · rw [hcs] at h0
    injection h0 with h0 _
    injection h0 with _ h1 _
    exact .inr ⟨_, _, by rw [hx], by simp [h1]⟩
end
end Go.Proofs.Ytkjopeiohjkhoaa

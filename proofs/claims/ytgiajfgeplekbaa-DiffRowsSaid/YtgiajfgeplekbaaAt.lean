/- An argument opened: a list of texts. -/
import Derived.Test.YtgiajfgeplekbaaAd
import Derived.Test.YtgiajfgeplekbaaD8
set_option linter.unusedVariables false
set_option linter.unusedSimpArgs false
namespace Go.Proofs.Ytgiajfgeplekbaa
open Go.RowKit Go.ChangeShapes Go.WideShapes Go.ChangeAt Go.Deep
section
variable {H : Type} {enc : TypeId × Value → H} {w : World} {base : Nat} {spare : Nat → Bool} {held : Bool}
theorem open_texts {fuel : Nat} {cs : List Value} {x : DataW H × List MemPlace} (h : DataW.trod enc Try.prog w base spare held fuel 24 cs = some x) :
    ∃ A n c, ∃ l : List ByteArray, cs = [.slice A n c] ∧ Rd w.heap.size 9 w 1 A n c (tCells l) := by
  rcases open_slice Try.underlying24 h with ⟨rfl, _⟩ | ⟨a, len, cap, m, n, D, Pl, rfl, hb, hl, hm, hmm, hx, hi⟩
  · exact ⟨none, 0, 0, [], rfl, Rd.none_⟩
  · have hC : Try.prog.cellsOf 9 = 1 := by kernel_rfl
    rw [hC] at hi
    have hall : ∀ i, i < len → ∃ x : ByteArray, ∀ j v, [Value.string x][j]? = some v → w.cell? (a.add (i * 1 + j)) = some v := by
      intro i hil
      have him : i < m := by rw [hmm]; split <;> omega
      obtain ⟨cs', hc, ht'⟩ := hi i him
      obtain ⟨_, hcl, hat⟩ := World.cells?_some hc
      have h0 := hat 0 (by omega)
      match cs', hcl with
      | [c0], _ =>
        obtain ⟨z0, e0, _, _⟩ := DataW.trod_string (by kernel_rfl) ht'
        injection e0 with e0 _
        subst e0
        refine ⟨z0, fun j v hj => ?_⟩
        match j, hj with
        | 0, hj =>
          have hv : Value.string z0 = v := by simpa using hj
          rw [← hv, Nat.add_zero]
          have : (a.add (i * 1)).add 0 = a.add (i * 1) := by simp [Addr.add]
          rw [this] at h0
          exact h0
        | j + 1, hj => simp at hj
    obtain ⟨l, hlen, hp⟩ := list_choice (fun i (x : ByteArray) => ∀ j v, [Value.string x][j]? = some v → w.cell? (a.add (i * 1 + j)) = some v) len hall
    exact ⟨some a, len, cap, l, rfl, Rd.mk_enc (enc := fun s => [Value.string s]) (k := 1) (fun _ => rfl) (by omega) hlen hl (fun i hi => hp i hi)⟩
end
end Go.Proofs.Ytgiajfgeplekbaa

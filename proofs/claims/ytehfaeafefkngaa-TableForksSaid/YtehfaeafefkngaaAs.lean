/- Arguments opened: lists of lists of operations. -/
import Derived.Test.YtehfaeafefkngaaAr
import Derived.Test.YtehfaeafefkngaaTl2
set_option linter.unusedVariables false
set_option linter.unusedSimpArgs false
namespace Go.Proofs.Ytehfaeafefkngaa
open Go.RowKit Go.ChangeShapes Go.WideShapes Go.ChangeAt Go.Deep

theorem all2_of {α β : Type} {R : α → β → Prop} : ∀ (l : List α) (m : List β), l.length = m.length → (∀ i (h1 : i < l.length) (h2 : i < m.length), R l[i] m[i]) → All2 R l m
  | [], [], _, _ => trivial
  | a :: l, b :: m, hl, h => ⟨h 0 (by simp) (by simp), all2_of l m (by simpa using hl) (fun i h1 h2 => h (i + 1) (by simpa using h1) (by simpa using h2))⟩
  | [], _ :: _, hl, _ => by simp at hl
  | _ :: _, [], hl, _ => by simp at hl

section
variable {H : Type} {enc : TypeId × Value → H} {w : World} {base : Nat} {spare : Nat → Bool} {held : Bool}
theorem open_opss {fuel : Nat} {cs : List Value} {x : DataW H × List MemPlace} (h : DataW.trod enc Try.prog w base spare held fuel 42 cs = some x) :
    ∃ A n c, ∃ (ll : List RSl) (opss : List (List OpR)), cs = [.slice A n c] ∧ Rd w.heap.size 22 w 1 A n c (ll.flatMap RSl.enc) ∧ All2 (OpsIn w.heap.size w) ll opss := by
  rcases open_slice Try.underlying42 h with ⟨rfl, _⟩ | ⟨a, len, cap, m, n, D, Pl, rfl, hb, hl, hm, hmm, hx, hi⟩
  · exact ⟨none, 0, 0, [], [], rfl, Rd.none_, trivial⟩
  · have hC : Try.prog.cellsOf 22 = 1 := by kernel_rfl
    rw [hC] at hi
    have hall : ∀ i, i < len → ∃ x : RSl × List OpR, OpsIn w.heap.size w x.1 x.2 ∧ ∀ j v, x.1.enc[j]? = some v → w.cell? (a.add (i * 1 + j)) = some v := by
      intro i hil
      have him : i < m := by rw [hmm]; split <;> omega
      obtain ⟨cs', hc, ht'⟩ := hi i him
      obtain ⟨A, nn, c, ops, rfl, hrd, hfit⟩ := open_ops ht'
      obtain ⟨_, hcl, hat⟩ := World.cells?_some hc
      have h0 := hat 0 (by omega)
      refine ⟨(⟨A, nn, c⟩, ops), ⟨hrd, hfit⟩, fun j v hj => ?_⟩
      match j, hj with
      | 0, hj =>
        have hv : Value.slice A nn c = v := by simpa [RSl.enc] using hj
        rw [← hv, Nat.add_zero]
        have : (a.add (i * 1)).add 0 = a.add (i * 1) := by simp [Addr.add]
        rw [this] at h0
        exact h0
      | j + 1, hj => simp [RSl.enc] at hj
    obtain ⟨l, hlen, hp⟩ := list_choice (fun i (x : RSl × List OpR) => OpsIn w.heap.size w x.1 x.2 ∧ ∀ j v, x.1.enc[j]? = some v → w.cell? (a.add (i * 1 + j)) = some v) len hall
    refine ⟨some a, len, cap, l.map (·.1), l.map (·.2), rfl, Rd.mk_enc (k := 1) (fun _ => rfl) (by omega) (by simpa using hlen) hl (fun i hi => ?_), all2_of _ _ (by simp) (fun i h1 h2 => ?_)⟩
    · have hil : i < l.length := by simpa using hi
      have := (hp i hil).2
      simpa using this
    · have hil : i < l.length := by simpa using h1
      have := (hp i hil).1
      simpa using this
end
end Go.Proofs.Ytehfaeafefkngaa

/- A table behind some operations. -/
import Derived.Test.YtlhjfblpinpjiaaTb8
import Derived.Test.YtlhjfblpinpjiaaTl1
set_option linter.unusedVariables false
set_option linter.unusedSimpArgs false
namespace Go.Proofs.Ytlhjfblpinpjiaa
open Go.RowKit

/-- A slice as it lies in memory. -/
structure RSl where
  A : Option Addr
  n : Nat
  c : Nat
def RSl.enc (q : RSl) : List Value := [.slice q.A q.n q.c]
structure OpsIn (base : Nat) (w : World) (q : RSl) (ops : List OpR) : Prop where
  rd : Rd base 64 w 6 q.A q.n q.c (opCells ops)
  fits : ∀ x ∈ ops, Fits x
theorem OpsIn.below {base : Nat} {w w' : World} {q : RSl} {ops : List OpR} (h : OpsIn base w q ops) (hb : Below w.heap.size w w') : OpsIn base w' q ops := ⟨h.rd.below hb, h.fits⟩
theorem OpsIn.grown {base g : Nat} {w w' : World} {q : RSl} {ops : List OpR} (h : OpsIn base w q ops) (hg : w.grownBy w' (some g)) (hT : IsT w g 88) (hb : base ≤ g) : OpsIn base w' q ops :=
  ⟨h.rd.grownR hg (fun j hj => by injection hj with hj; subst hj; exact ⟨hT, hb⟩) (by decide), h.fits⟩

def playP : List Rw → List (List OpR) → List Rw
  | l, [] => l
  | l, x :: xs => playP (doP l x).rows xs
theorem playP_snoc (l : List Rw) (xs : List (List OpR)) (x : List OpR) : playP l (xs ++ [x]) = (doP (playP l xs) x).rows := by
  induction xs generalizing l with
  | nil => rfl
  | cons y ys ih => exact ih _

end Go.Proofs.Ytlhjfblpinpjiaa

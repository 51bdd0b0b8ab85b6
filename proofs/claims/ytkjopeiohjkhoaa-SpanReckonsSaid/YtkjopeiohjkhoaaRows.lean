/-
  No cell of these rows narrows 'for every input' (looked for: loops, veiled, ifaces, maps, wideKeys, modest, calm, conditions, laid).
  DERIVED. THE GIVEN ROWS OF THIS SEAT. 7 by the template 'for every input the law returns true; each argument reads behind the call as it read before'; 0 by the template 'total and deterministic' (their statements: YtkjopeiohjkhoaaTotals.lean).
  GIVEN WITH THE SEED: the statements are not yours to turn. If you find one false, say at which input.
  Laid BY PROGRAM, IN A SANDBOX (cutbox-rows.mjs): the forced cells as the released guide's own fill.sh prints them over the translation 987abc4f0283f175… (all of the seat's roots in one cut). By AI agents, Wed Nov 11 2026. No macro, syntax, notation, axiom, sorry.
-/
import Derived.Test.YtkjopeiohjkhoaaChecked
import GoSem.Claim
import GoSem.ClaimJoined
import GoSem.ClaimMapViews
import Derived.JoinedTies
import Derived.KernelRfl
namespace Go.Proofs.Ytkjopeiohjkhoaa
/- THE CELL 'sum', in the pinned program and in every row, IS THE sha256 OF THE DUMP (.gsa) THAT YtkjopeiohjkhoaaProg.lean LOADS. Nothing in Lean hashes anything: it is a label: what it is worth is what the hold of that sum in a sandbox is worth. -/
noncomputable def Try.pinned : Pinned := { name := "ytkjopeiohjkhoaa", sum := "987abc4f0283f175d6904f6c08a7ee7c2c8965c579d3a3669f5fae9608fccd81", checked := Try.checked }
namespace Rows
def none {H : Type} : Left H := { results := [], args := [] }

/-- 'skylarklaw05.SpanReckons': WHATEVER THE INPUT: true; the input reads as it did. -/
def spanReckonsSpec : ChangeSpec := { name := "spanReckons", fn := fun _ => fun
  | [d1, d2] => { results := [.lit (.bool true)], args := [d1, d2] }
  | _ => none }
def spanReckonsRow : OpenClaim := { program := "ytkjopeiohjkhoaa", sum := "987abc4f0283f175d6904f6c08a7ee7c2c8965c579d3a3669f5fae9608fccd81", func := "skylark/skylarklaw05.SpanReckons", spec := "spanReckons", unfollowed := true, recurses := true, apart := false }
def SpanReckonsSaid : Prop := spanReckonsRow.holds Try.pinned (OpenSpec.ofChange spanReckonsSpec)

/-- ITS FALSE NEIGHBOUR: 'it returns false'. Refute it at one input. -/
def spanReckonsWrong : ChangeSpec := { name := "spanReckons", fn := fun _ => fun
  | [d1, d2] => { results := [.lit (.bool false)], args := [d1, d2] }
  | _ => none }
def SpanReckonsWrongFalsely : Prop := spanReckonsRow.holds Try.pinned (OpenSpec.ofChange spanReckonsWrong)

/-- 'skylarklaw05.SpanLaws': WHATEVER THE INPUT: true; the input reads as it did. -/
def spanLawsSpec : ChangeSpec := { name := "spanLaws", fn := fun _ => fun
  | [d1, d2] => { results := [.lit (.bool true)], args := [d1, d2] }
  | _ => none }
def spanLawsRow : OpenClaim := { program := "ytkjopeiohjkhoaa", sum := "987abc4f0283f175d6904f6c08a7ee7c2c8965c579d3a3669f5fae9608fccd81", func := "skylark/skylarklaw05.SpanLaws", spec := "spanLaws", unfollowed := true, recurses := true, apart := false }
def SpanLawsSaid : Prop := spanLawsRow.holds Try.pinned (OpenSpec.ofChange spanLawsSpec)

/-- ITS FALSE NEIGHBOUR: 'it returns false'. Refute it at one input. -/
def spanLawsWrong : ChangeSpec := { name := "spanLaws", fn := fun _ => fun
  | [d1, d2] => { results := [.lit (.bool false)], args := [d1, d2] }
  | _ => none }
def SpanLawsWrongFalsely : Prop := spanLawsRow.holds Try.pinned (OpenSpec.ofChange spanLawsWrong)

/-- 'skylarklaw05.SpanThree': WHATEVER THE INPUT: true; the input reads as it did. -/
def spanThreeSpec : ChangeSpec := { name := "spanThree", fn := fun _ => fun
  | [d1, d2, d3] => { results := [.lit (.bool true)], args := [d1, d2, d3] }
  | _ => none }
def spanThreeRow : OpenClaim := { program := "ytkjopeiohjkhoaa", sum := "987abc4f0283f175d6904f6c08a7ee7c2c8965c579d3a3669f5fae9608fccd81", func := "skylark/skylarklaw05.SpanThree", spec := "spanThree", unfollowed := true, recurses := true, apart := false }
def SpanThreeSaid : Prop := spanThreeRow.holds Try.pinned (OpenSpec.ofChange spanThreeSpec)

/-- ITS FALSE NEIGHBOUR: 'it returns false'. Refute it at one input. -/
def spanThreeWrong : ChangeSpec := { name := "spanThree", fn := fun _ => fun
  | [d1, d2, d3] => { results := [.lit (.bool false)], args := [d1, d2, d3] }
  | _ => none }
def SpanThreeWrongFalsely : Prop := spanThreeRow.holds Try.pinned (OpenSpec.ofChange spanThreeWrong)

/-- 'skylarklaw05.SpanRest': WHATEVER THE INPUT: true; the input reads as it did. -/
def spanRestSpec : ChangeSpec := { name := "spanRest", fn := fun _ => fun
  | [d] => { results := [.lit (.bool true)], args := [d] }
  | _ => none }
def spanRestRow : OpenClaim := { program := "ytkjopeiohjkhoaa", sum := "987abc4f0283f175d6904f6c08a7ee7c2c8965c579d3a3669f5fae9608fccd81", func := "skylark/skylarklaw05.SpanRest", spec := "spanRest", unfollowed := true, recurses := true, apart := false }
def SpanRestSaid : Prop := spanRestRow.holds Try.pinned (OpenSpec.ofChange spanRestSpec)

/-- ITS FALSE NEIGHBOUR: 'it returns false'. Refute it at one input. -/
def spanRestWrong : ChangeSpec := { name := "spanRest", fn := fun _ => fun
  | [d] => { results := [.lit (.bool false)], args := [d] }
  | _ => none }
def SpanRestWrongFalsely : Prop := spanRestRow.holds Try.pinned (OpenSpec.ofChange spanRestWrong)

/-- 'skylarklaw05.SpanHas': WHATEVER THE INPUT: true; the input reads as it did. -/
def spanHasSpec : ChangeSpec := { name := "spanHas", fn := fun _ => fun
  | [d1, d2] => { results := [.lit (.bool true)], args := [d1, d2] }
  | _ => none }
def spanHasRow : OpenClaim := { program := "ytkjopeiohjkhoaa", sum := "987abc4f0283f175d6904f6c08a7ee7c2c8965c579d3a3669f5fae9608fccd81", func := "skylark/skylarklaw05.SpanHas", spec := "spanHas", unfollowed := true, recurses := true, apart := false }
def SpanHasSaid : Prop := spanHasRow.holds Try.pinned (OpenSpec.ofChange spanHasSpec)

/-- ITS FALSE NEIGHBOUR: 'it returns false'. Refute it at one input. -/
def spanHasWrong : ChangeSpec := { name := "spanHas", fn := fun _ => fun
  | [d1, d2] => { results := [.lit (.bool false)], args := [d1, d2] }
  | _ => none }
def SpanHasWrongFalsely : Prop := spanHasRow.holds Try.pinned (OpenSpec.ofChange spanHasWrong)

/-- 'skylarklaw05.SpanOne': WHATEVER THE INPUT: true; the input reads as it did. -/
def spanOneSpec : ChangeSpec := { name := "spanOne", fn := fun _ => fun
  | [d1, d2] => { results := [.lit (.bool true)], args := [d1, d2] }
  | _ => none }
def spanOneRow : OpenClaim := { program := "ytkjopeiohjkhoaa", sum := "987abc4f0283f175d6904f6c08a7ee7c2c8965c579d3a3669f5fae9608fccd81", func := "skylark/skylarklaw05.SpanOne", spec := "spanOne", unfollowed := true, recurses := true, apart := false }
def SpanOneSaid : Prop := spanOneRow.holds Try.pinned (OpenSpec.ofChange spanOneSpec)

/-- ITS FALSE NEIGHBOUR: 'it returns false'. Refute it at one input. -/
def spanOneWrong : ChangeSpec := { name := "spanOne", fn := fun _ => fun
  | [d1, d2] => { results := [.lit (.bool false)], args := [d1, d2] }
  | _ => none }
def SpanOneWrongFalsely : Prop := spanOneRow.holds Try.pinned (OpenSpec.ofChange spanOneWrong)

/-- 'skylarklaw05.SpanKeys': WHATEVER THE INPUT: true; the input reads as it did. -/
def spanKeysSpec : ChangeSpec := { name := "spanKeys", fn := fun _ => fun
  | [d1, d2, d3] => { results := [.lit (.bool true)], args := [d1, d2, d3] }
  | _ => none }
def spanKeysRow : OpenClaim := { program := "ytkjopeiohjkhoaa", sum := "987abc4f0283f175d6904f6c08a7ee7c2c8965c579d3a3669f5fae9608fccd81", func := "skylark/skylarklaw05.SpanKeys", spec := "spanKeys", unfollowed := true, recurses := true, apart := false }
def SpanKeysSaid : Prop := spanKeysRow.holds Try.pinned (OpenSpec.ofChange spanKeysSpec)

/-- ITS FALSE NEIGHBOUR: 'it returns false'. Refute it at one input. -/
def spanKeysWrong : ChangeSpec := { name := "spanKeys", fn := fun _ => fun
  | [d1, d2, d3] => { results := [.lit (.bool false)], args := [d1, d2, d3] }
  | _ => none }
def SpanKeysWrongFalsely : Prop := spanKeysRow.holds Try.pinned (OpenSpec.ofChange spanKeysWrong)

/- THE SECOND FORM. 'bulk': how many values and letters a reading holds, each counted each time it is reached (what is shared counts as often as it is met; a slice's spare places count too). A statement '..UptoSaid' is the law's where the arguments, and the package variables that the reading takes, are together of bulk at most 1048576: NARROWER than '..Said'. Prove '..Said' where nothing that the law and all that it calls make is longer than what came in: it says more and counts as full. Else prove '..UptoSaid'. A law counts once. -/
mutual
def uptoBulk {H : Type} : DataW H → Nat
  | .lit (.string bytes) => bytes.length + 1
  | .lit _ => 1
  | .nil => 1
  | .ptr d => uptoBulk d + 1
  | .slice elems spare => uptoBulkAll elems + uptoBulkAll spare + 1
  | .agg parts => uptoBulkAll parts + 1
  | .iface _ d => uptoBulk d + 1
  | .map entries => uptoBulkEntries entries + 1
  | .held _ => 1
def uptoBulkAll {H : Type} : List (DataW H) → Nat
  | [] => 0
  | d :: r => uptoBulk d + uptoBulkAll r
def uptoBulkEntries {H : Type} : List (Lit × DataW H) → Nat
  | [] => 0
  | x :: r => uptoBulkEntry x + uptoBulkEntries r
def uptoBulkEntry {H : Type} : Lit × DataW H → Nat
  | (.string bytes, d) => bytes.length + uptoBulk d + 1
  | (_, d) => uptoBulk d + 1
 end
def uptoSmall : (H : Type) → List (DataW H) → Bool := fun _ ds => decide (uptoBulkAll ds ≤ 1048576)
def OpenSpec.upto (s : _root_.Go.ChangeSpec) : _root_.Go.OpenSpec := { _root_.Go.OpenSpec.ofChange s with cond := some uptoSmall }

/-- 'skylarklaw05.SpanReckons', WHERE WHAT IT READS IS OF BULK AT MOST 1048576: true; the input reads as it did. -/
def spanReckonsUptoRow : OpenClaim := { program := "ytkjopeiohjkhoaa", sum := "987abc4f0283f175d6904f6c08a7ee7c2c8965c579d3a3669f5fae9608fccd81", func := "skylark/skylarklaw05.SpanReckons", spec := "spanReckons", unfollowed := true, recurses := true, apart := false, narrowed := true }
def SpanReckonsUptoSaid : Prop := spanReckonsUptoRow.holds Try.pinned (OpenSpec.upto spanReckonsSpec)

/-- 'skylarklaw05.SpanLaws', WHERE WHAT IT READS IS OF BULK AT MOST 1048576: true; the input reads as it did. -/
def spanLawsUptoRow : OpenClaim := { program := "ytkjopeiohjkhoaa", sum := "987abc4f0283f175d6904f6c08a7ee7c2c8965c579d3a3669f5fae9608fccd81", func := "skylark/skylarklaw05.SpanLaws", spec := "spanLaws", unfollowed := true, recurses := true, apart := false, narrowed := true }
def SpanLawsUptoSaid : Prop := spanLawsUptoRow.holds Try.pinned (OpenSpec.upto spanLawsSpec)

/-- 'skylarklaw05.SpanThree', WHERE WHAT IT READS IS OF BULK AT MOST 1048576: true; the input reads as it did. -/
def spanThreeUptoRow : OpenClaim := { program := "ytkjopeiohjkhoaa", sum := "987abc4f0283f175d6904f6c08a7ee7c2c8965c579d3a3669f5fae9608fccd81", func := "skylark/skylarklaw05.SpanThree", spec := "spanThree", unfollowed := true, recurses := true, apart := false, narrowed := true }
def SpanThreeUptoSaid : Prop := spanThreeUptoRow.holds Try.pinned (OpenSpec.upto spanThreeSpec)

/-- 'skylarklaw05.SpanRest', WHERE WHAT IT READS IS OF BULK AT MOST 1048576: true; the input reads as it did. -/
def spanRestUptoRow : OpenClaim := { program := "ytkjopeiohjkhoaa", sum := "987abc4f0283f175d6904f6c08a7ee7c2c8965c579d3a3669f5fae9608fccd81", func := "skylark/skylarklaw05.SpanRest", spec := "spanRest", unfollowed := true, recurses := true, apart := false, narrowed := true }
def SpanRestUptoSaid : Prop := spanRestUptoRow.holds Try.pinned (OpenSpec.upto spanRestSpec)

/-- 'skylarklaw05.SpanHas', WHERE WHAT IT READS IS OF BULK AT MOST 1048576: true; the input reads as it did. -/
def spanHasUptoRow : OpenClaim := { program := "ytkjopeiohjkhoaa", sum := "987abc4f0283f175d6904f6c08a7ee7c2c8965c579d3a3669f5fae9608fccd81", func := "skylark/skylarklaw05.SpanHas", spec := "spanHas", unfollowed := true, recurses := true, apart := false, narrowed := true }
def SpanHasUptoSaid : Prop := spanHasUptoRow.holds Try.pinned (OpenSpec.upto spanHasSpec)

/-- 'skylarklaw05.SpanOne', WHERE WHAT IT READS IS OF BULK AT MOST 1048576: true; the input reads as it did. -/
def spanOneUptoRow : OpenClaim := { program := "ytkjopeiohjkhoaa", sum := "987abc4f0283f175d6904f6c08a7ee7c2c8965c579d3a3669f5fae9608fccd81", func := "skylark/skylarklaw05.SpanOne", spec := "spanOne", unfollowed := true, recurses := true, apart := false, narrowed := true }
def SpanOneUptoSaid : Prop := spanOneUptoRow.holds Try.pinned (OpenSpec.upto spanOneSpec)

/-- 'skylarklaw05.SpanKeys', WHERE WHAT IT READS IS OF BULK AT MOST 1048576: true; the input reads as it did. -/
def spanKeysUptoRow : OpenClaim := { program := "ytkjopeiohjkhoaa", sum := "987abc4f0283f175d6904f6c08a7ee7c2c8965c579d3a3669f5fae9608fccd81", func := "skylark/skylarklaw05.SpanKeys", spec := "spanKeys", unfollowed := true, recurses := true, apart := false, narrowed := true }
def SpanKeysUptoSaid : Prop := spanKeysUptoRow.holds Try.pinned (OpenSpec.upto spanKeysSpec)

end Rows
end Go.Proofs.Ytkjopeiohjkhoaa

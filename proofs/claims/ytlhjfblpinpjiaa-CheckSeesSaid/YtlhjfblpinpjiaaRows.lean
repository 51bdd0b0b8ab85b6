/-
  No cell of these rows narrows 'for every input' (looked for: loops, veiled, ifaces, maps, wideKeys, modest, calm, conditions, laid).
  DERIVED. THE GIVEN ROWS OF THIS SEAT. 5 by the template 'for every input the law returns true; each argument reads behind the call as it read before'; 0 by the template 'total and deterministic' (their statements: YtlhjfblpinpjiaaTotals.lean).
  GIVEN WITH THE SEED: the statements are not yours to turn. If you find one false, say at which input.
  Laid BY PROGRAM, IN A SANDBOX (cutbox-rows.mjs): the forced cells as the released guide's own fill.sh prints them over the translation a470dfd12a604bda… (all of the seat's roots in one cut). By AI agents, Wed Nov 11 2026. No macro, syntax, notation, axiom, sorry.
-/
import Derived.Test.YtlhjfblpinpjiaaChecked
import GoSem.Claim
import GoSem.ClaimJoined
import GoSem.ClaimMapViews
import Derived.JoinedTies
import Derived.KernelRfl
namespace Go.Proofs.Ytlhjfblpinpjiaa
/- THE CELL 'sum', in the pinned program and in every row, IS THE sha256 OF THE DUMP (.gsa) THAT YtlhjfblpinpjiaaProg.lean LOADS. Nothing in Lean hashes anything: it is a label: what it is worth is what the hold of that sum in a sandbox is worth. -/
noncomputable def Try.pinned : Pinned := { name := "ytlhjfblpinpjiaa", sum := "a470dfd12a604bda86578e4ebe7d3da4e8b92dac5a909e9b5531e1645e622f5a", checked := Try.checked }
namespace Rows
def none {H : Type} : Left H := { results := [], args := [] }

/-- 'skylarklaw25.CheckFinds': WHATEVER THE INPUT: true; the input reads as it did. -/
def checkFindsSpec : ChangeSpec := { name := "checkFinds", fn := fun _ => fun
  | [d] => { results := [.lit (.bool true)], args := [d] }
  | _ => none }
def checkFindsRow : OpenClaim := { program := "ytlhjfblpinpjiaa", sum := "a470dfd12a604bda86578e4ebe7d3da4e8b92dac5a909e9b5531e1645e622f5a", func := "skylark/skylarklaw25.CheckFinds", spec := "checkFinds", inPlace := ["internal/bytealg.abigen_runtime_cmpstring"], unfollowed := true, recurses := true, apart := false }
def CheckFindsSaid : Prop := checkFindsRow.holds Try.pinned (OpenSpec.ofChange checkFindsSpec)

/-- ITS FALSE NEIGHBOUR: 'it returns false'. Refute it at one input. -/
def checkFindsWrong : ChangeSpec := { name := "checkFinds", fn := fun _ => fun
  | [d] => { results := [.lit (.bool false)], args := [d] }
  | _ => none }
def CheckFindsWrongFalsely : Prop := checkFindsRow.holds Try.pinned (OpenSpec.ofChange checkFindsWrong)

/-- 'skylarklaw25.CheckSees': WHATEVER THE INPUT: true; the input reads as it did. -/
def checkSeesSpec : ChangeSpec := { name := "checkSees", fn := fun _ => fun
  | [d1, d2] => { results := [.lit (.bool true)], args := [d1, d2] }
  | _ => none }
def checkSeesRow : OpenClaim := { program := "ytlhjfblpinpjiaa", sum := "a470dfd12a604bda86578e4ebe7d3da4e8b92dac5a909e9b5531e1645e622f5a", func := "skylark/skylarklaw25.CheckSees", spec := "checkSees", inPlace := ["internal/bytealg.abigen_runtime_cmpstring"], unfollowed := true, recurses := true, apart := false }
def CheckSeesSaid : Prop := checkSeesRow.holds Try.pinned (OpenSpec.ofChange checkSeesSpec)

/-- ITS FALSE NEIGHBOUR: 'it returns false'. Refute it at one input. -/
def checkSeesWrong : ChangeSpec := { name := "checkSees", fn := fun _ => fun
  | [d1, d2] => { results := [.lit (.bool false)], args := [d1, d2] }
  | _ => none }
def CheckSeesWrongFalsely : Prop := checkSeesRow.holds Try.pinned (OpenSpec.ofChange checkSeesWrong)

/-- 'skylarklaw25.CheckLoosens': WHATEVER THE INPUT: true; the input reads as it did. -/
def checkLoosensSpec : ChangeSpec := { name := "checkLoosens", fn := fun _ => fun
  | [d1, d2, d3] => { results := [.lit (.bool true)], args := [d1, d2, d3] }
  | _ => none }
def checkLoosensRow : OpenClaim := { program := "ytlhjfblpinpjiaa", sum := "a470dfd12a604bda86578e4ebe7d3da4e8b92dac5a909e9b5531e1645e622f5a", func := "skylark/skylarklaw25.CheckLoosens", spec := "checkLoosens", inPlace := ["internal/bytealg.abigen_runtime_cmpstring"], unfollowed := true, recurses := true, apart := false }
def CheckLoosensSaid : Prop := checkLoosensRow.holds Try.pinned (OpenSpec.ofChange checkLoosensSpec)

/-- ITS FALSE NEIGHBOUR: 'it returns false'. Refute it at one input. -/
def checkLoosensWrong : ChangeSpec := { name := "checkLoosens", fn := fun _ => fun
  | [d1, d2, d3] => { results := [.lit (.bool false)], args := [d1, d2, d3] }
  | _ => none }
def CheckLoosensWrongFalsely : Prop := checkLoosensRow.holds Try.pinned (OpenSpec.ofChange checkLoosensWrong)

/-- 'skylarklaw25.CheckJudges': WHATEVER THE INPUT: true; the input reads as it did. -/
def checkJudgesSpec : ChangeSpec := { name := "checkJudges", fn := fun _ => fun
  | [d1, d2] => { results := [.lit (.bool true)], args := [d1, d2] }
  | _ => none }
def checkJudgesRow : OpenClaim := { program := "ytlhjfblpinpjiaa", sum := "a470dfd12a604bda86578e4ebe7d3da4e8b92dac5a909e9b5531e1645e622f5a", func := "skylark/skylarklaw25.CheckJudges", spec := "checkJudges", inPlace := ["internal/bytealg.abigen_runtime_cmpstring"], unfollowed := true, recurses := true, apart := false }
def CheckJudgesSaid : Prop := checkJudgesRow.holds Try.pinned (OpenSpec.ofChange checkJudgesSpec)

/-- ITS FALSE NEIGHBOUR: 'it returns false'. Refute it at one input. -/
def checkJudgesWrong : ChangeSpec := { name := "checkJudges", fn := fun _ => fun
  | [d1, d2] => { results := [.lit (.bool false)], args := [d1, d2] }
  | _ => none }
def CheckJudgesWrongFalsely : Prop := checkJudgesRow.holds Try.pinned (OpenSpec.ofChange checkJudgesWrong)

/-- 'skylarklaw25.CheckTrue': WHATEVER THE INPUT: true; the input reads as it did. -/
def checkTrueSpec : ChangeSpec := { name := "checkTrue", fn := fun _ => fun
  | [d] => { results := [.lit (.bool true)], args := [d] }
  | _ => none }
def checkTrueRow : OpenClaim := { program := "ytlhjfblpinpjiaa", sum := "a470dfd12a604bda86578e4ebe7d3da4e8b92dac5a909e9b5531e1645e622f5a", func := "skylark/skylarklaw25.CheckTrue", spec := "checkTrue", inPlace := ["internal/bytealg.abigen_runtime_cmpstring"], unfollowed := true, recurses := true, apart := false }
def CheckTrueSaid : Prop := checkTrueRow.holds Try.pinned (OpenSpec.ofChange checkTrueSpec)

/-- ITS FALSE NEIGHBOUR: 'it returns false'. Refute it at one input. -/
def checkTrueWrong : ChangeSpec := { name := "checkTrue", fn := fun _ => fun
  | [d] => { results := [.lit (.bool false)], args := [d] }
  | _ => none }
def CheckTrueWrongFalsely : Prop := checkTrueRow.holds Try.pinned (OpenSpec.ofChange checkTrueWrong)

/- THE SECOND FORM. 'bulk': how many values and letters a reading holds, each counted each time it is reached (what is shared counts as often as it is met; a slice's spare places count too). A statement '..UptoSaid' is the law's where the arguments, and the package variables that the reading takes, are together of bulk at most 1048576: NARROWER than '..Said'. Prove '..Said' where nothing that the law and all that it calls make is longer than what came in: it says more and counts as full. Else prove '..UptoSaid'. A law counts once. -/
mutual
def uptoBulk {H : Type} : DataW H → Nat
  | .lit (.string bytes) => bytes.length + 1
  | .lit _ => 1
  | .nil => 1
  | .ptr d => uptoBulk d + 1
  | .slice elems spare => uptoBulkAll elems + uptoBulkAll spare + 1
  | .agg parts => uptoBulkAll parts + 1
  | .iface _ d => uptoBulk d + 1
  | .map entries => uptoBulkEntries entries + 1
  | .held _ => 1
def uptoBulkAll {H : Type} : List (DataW H) → Nat
  | [] => 0
  | d :: r => uptoBulk d + uptoBulkAll r
def uptoBulkEntries {H : Type} : List (Lit × DataW H) → Nat
  | [] => 0
  | x :: r => uptoBulkEntry x + uptoBulkEntries r
def uptoBulkEntry {H : Type} : Lit × DataW H → Nat
  | (.string bytes, d) => bytes.length + uptoBulk d + 1
  | (_, d) => uptoBulk d + 1
 end
def uptoSmall : (H : Type) → List (DataW H) → Bool := fun _ ds => decide (uptoBulkAll ds ≤ 1048576)
def OpenSpec.upto (s : _root_.Go.ChangeSpec) : _root_.Go.OpenSpec := { _root_.Go.OpenSpec.ofChange s with cond := some uptoSmall }

/-- 'skylarklaw25.CheckFinds', WHERE WHAT IT READS IS OF BULK AT MOST 1048576: true; the input reads as it did. -/
def checkFindsUptoRow : OpenClaim := { program := "ytlhjfblpinpjiaa", sum := "a470dfd12a604bda86578e4ebe7d3da4e8b92dac5a909e9b5531e1645e622f5a", func := "skylark/skylarklaw25.CheckFinds", spec := "checkFinds", inPlace := ["internal/bytealg.abigen_runtime_cmpstring"], unfollowed := true, recurses := true, apart := false, narrowed := true }
def CheckFindsUptoSaid : Prop := checkFindsUptoRow.holds Try.pinned (OpenSpec.upto checkFindsSpec)

/-- 'skylarklaw25.CheckSees', WHERE WHAT IT READS IS OF BULK AT MOST 1048576: true; the input reads as it did. -/
def checkSeesUptoRow : OpenClaim := { program := "ytlhjfblpinpjiaa", sum := "a470dfd12a604bda86578e4ebe7d3da4e8b92dac5a909e9b5531e1645e622f5a", func := "skylark/skylarklaw25.CheckSees", spec := "checkSees", inPlace := ["internal/bytealg.abigen_runtime_cmpstring"], unfollowed := true, recurses := true, apart := false, narrowed := true }
def CheckSeesUptoSaid : Prop := checkSeesUptoRow.holds Try.pinned (OpenSpec.upto checkSeesSpec)

/-- 'skylarklaw25.CheckLoosens', WHERE WHAT IT READS IS OF BULK AT MOST 1048576: true; the input reads as it did. -/
def checkLoosensUptoRow : OpenClaim := { program := "ytlhjfblpinpjiaa", sum := "a470dfd12a604bda86578e4ebe7d3da4e8b92dac5a909e9b5531e1645e622f5a", func := "skylark/skylarklaw25.CheckLoosens", spec := "checkLoosens", inPlace := ["internal/bytealg.abigen_runtime_cmpstring"], unfollowed := true, recurses := true, apart := false, narrowed := true }
def CheckLoosensUptoSaid : Prop := checkLoosensUptoRow.holds Try.pinned (OpenSpec.upto checkLoosensSpec)

/-- 'skylarklaw25.CheckJudges', WHERE WHAT IT READS IS OF BULK AT MOST 1048576: true; the input reads as it did. -/
def checkJudgesUptoRow : OpenClaim := { program := "ytlhjfblpinpjiaa", sum := "a470dfd12a604bda86578e4ebe7d3da4e8b92dac5a909e9b5531e1645e622f5a", func := "skylark/skylarklaw25.CheckJudges", spec := "checkJudges", inPlace := ["internal/bytealg.abigen_runtime_cmpstring"], unfollowed := true, recurses := true, apart := false, narrowed := true }
def CheckJudgesUptoSaid : Prop := checkJudgesUptoRow.holds Try.pinned (OpenSpec.upto checkJudgesSpec)

/-- 'skylarklaw25.CheckTrue', WHERE WHAT IT READS IS OF BULK AT MOST 1048576: true; the input reads as it did. -/
def checkTrueUptoRow : OpenClaim := { program := "ytlhjfblpinpjiaa", sum := "a470dfd12a604bda86578e4ebe7d3da4e8b92dac5a909e9b5531e1645e622f5a", func := "skylark/skylarklaw25.CheckTrue", spec := "checkTrue", inPlace := ["internal/bytealg.abigen_runtime_cmpstring"], unfollowed := true, recurses := true, apart := false, narrowed := true }
def CheckTrueUptoSaid : Prop := checkTrueUptoRow.holds Try.pinned (OpenSpec.upto checkTrueSpec)

end Rows
end Go.Proofs.Ytlhjfblpinpjiaa

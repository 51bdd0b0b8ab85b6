/-
  No cell of these rows narrows 'for every input' (looked for: loops, veiled, ifaces, maps, wideKeys, modest, calm, conditions, laid).
  DERIVED. THE GIVEN ROWS OF THIS SEAT. 7 by the template 'for every input the law returns true; each argument reads behind the call as it read before'; 0 by the template 'total and deterministic' (their statements: YtgiajfgeplekbaaTotals.lean).
  GIVEN WITH THE SEED: the statements are not yours to turn. If you find one false, say at which input.
  Laid BY PROGRAM, IN A SANDBOX (cutbox-rows.mjs): the forced cells as the released guide's own fill.sh prints them over the translation d6539009358fa911… (all of the seat's roots in one cut). By AI agents, Wed Nov 11 2026. No macro, syntax, notation, axiom, sorry.
-/
import Derived.Test.YtgiajfgeplekbaaChecked
import GoSem.Claim
import GoSem.ClaimJoined
import GoSem.ClaimMapViews
import Derived.JoinedTies
import Derived.KernelRfl
namespace Go.Proofs.Ytgiajfgeplekbaa
/- THE CELL 'sum', in the pinned program and in every row, IS THE sha256 OF THE DUMP (.gsa) THAT YtgiajfgeplekbaaProg.lean LOADS. Nothing in Lean hashes anything: it is a label: what it is worth is what the hold of that sum in a sandbox is worth. -/
noncomputable def Try.pinned : Pinned := { name := "ytgiajfgeplekbaa", sum := "d6539009358fa9116af63bff88951315230d494f37404bdaecf94a0efec5bf66", checked := Try.checked }
namespace Rows
def none {H : Type} : Left H := { results := [], args := [] }

/-- 'skylarklaw21.DiffTurns': WHATEVER THE INPUT: true; the input reads as it did. -/
def diffTurnsSpec : ChangeSpec := { name := "diffTurns", fn := fun _ => fun
  | [d1, d2] => { results := [.lit (.bool true)], args := [d1, d2] }
  | _ => none }
def diffTurnsRow : OpenClaim := { program := "ytgiajfgeplekbaa", sum := "d6539009358fa9116af63bff88951315230d494f37404bdaecf94a0efec5bf66", func := "skylark/skylarklaw21.DiffTurns", spec := "diffTurns", inPlace := ["internal/bytealg.abigen_runtime_cmpstring"], unfollowed := true, recurses := true, apart := false }
def DiffTurnsSaid : Prop := diffTurnsRow.holds Try.pinned (OpenSpec.ofChange diffTurnsSpec)

/-- ITS FALSE NEIGHBOUR: 'it returns false'. Refute it at one input. -/
def diffTurnsWrong : ChangeSpec := { name := "diffTurns", fn := fun _ => fun
  | [d1, d2] => { results := [.lit (.bool false)], args := [d1, d2] }
  | _ => none }
def DiffTurnsWrongFalsely : Prop := diffTurnsRow.holds Try.pinned (OpenSpec.ofChange diffTurnsWrong)

/-- 'skylarklaw21.DiffCovers': WHATEVER THE INPUT: true; the input reads as it did. -/
def diffCoversSpec : ChangeSpec := { name := "diffCovers", fn := fun _ => fun
  | [d1, d2, d3] => { results := [.lit (.bool true)], args := [d1, d2, d3] }
  | _ => none }
def diffCoversRow : OpenClaim := { program := "ytgiajfgeplekbaa", sum := "d6539009358fa9116af63bff88951315230d494f37404bdaecf94a0efec5bf66", func := "skylark/skylarklaw21.DiffCovers", spec := "diffCovers", inPlace := ["internal/bytealg.abigen_runtime_cmpstring"], unfollowed := true, recurses := true, apart := false }
def DiffCoversSaid : Prop := diffCoversRow.holds Try.pinned (OpenSpec.ofChange diffCoversSpec)

/-- ITS FALSE NEIGHBOUR: 'it returns false'. Refute it at one input. -/
def diffCoversWrong : ChangeSpec := { name := "diffCovers", fn := fun _ => fun
  | [d1, d2, d3] => { results := [.lit (.bool false)], args := [d1, d2, d3] }
  | _ => none }
def DiffCoversWrongFalsely : Prop := diffCoversRow.holds Try.pinned (OpenSpec.ofChange diffCoversWrong)

/-- 'skylarklaw21.DiffUnlike': WHATEVER THE INPUT: true; the input reads as it did. -/
def diffUnlikeSpec : ChangeSpec := { name := "diffUnlike", fn := fun _ => fun
  | [d1, d2] => { results := [.lit (.bool true)], args := [d1, d2] }
  | _ => none }
def diffUnlikeRow : OpenClaim := { program := "ytgiajfgeplekbaa", sum := "d6539009358fa9116af63bff88951315230d494f37404bdaecf94a0efec5bf66", func := "skylark/skylarklaw21.DiffUnlike", spec := "diffUnlike", inPlace := ["internal/bytealg.abigen_runtime_cmpstring"], unfollowed := true, recurses := true, apart := false }
def DiffUnlikeSaid : Prop := diffUnlikeRow.holds Try.pinned (OpenSpec.ofChange diffUnlikeSpec)

/-- ITS FALSE NEIGHBOUR: 'it returns false'. Refute it at one input. -/
def diffUnlikeWrong : ChangeSpec := { name := "diffUnlike", fn := fun _ => fun
  | [d1, d2] => { results := [.lit (.bool false)], args := [d1, d2] }
  | _ => none }
def DiffUnlikeWrongFalsely : Prop := diffUnlikeRow.holds Try.pinned (OpenSpec.ofChange diffUnlikeWrong)

/-- 'skylarklaw21.DiffParts': WHATEVER THE INPUT: true; the input reads as it did. -/
def diffPartsSpec : ChangeSpec := { name := "diffParts", fn := fun _ => fun
  | [d1, d2, d3] => { results := [.lit (.bool true)], args := [d1, d2, d3] }
  | _ => none }
def diffPartsRow : OpenClaim := { program := "ytgiajfgeplekbaa", sum := "d6539009358fa9116af63bff88951315230d494f37404bdaecf94a0efec5bf66", func := "skylark/skylarklaw21.DiffParts", spec := "diffParts", inPlace := ["internal/bytealg.abigen_runtime_cmpstring"], unfollowed := true, recurses := true, apart := false }
def DiffPartsSaid : Prop := diffPartsRow.holds Try.pinned (OpenSpec.ofChange diffPartsSpec)

/-- ITS FALSE NEIGHBOUR: 'it returns false'. Refute it at one input. -/
def diffPartsWrong : ChangeSpec := { name := "diffParts", fn := fun _ => fun
  | [d1, d2, d3] => { results := [.lit (.bool false)], args := [d1, d2, d3] }
  | _ => none }
def DiffPartsWrongFalsely : Prop := diffPartsRow.holds Try.pinned (OpenSpec.ofChange diffPartsWrong)

/-- 'skylarklaw21.DiffRows': WHATEVER THE INPUT: true; the input reads as it did. -/
def diffRowsSpec : ChangeSpec := { name := "diffRows", fn := fun _ => fun
  | [d1, d2, d3] => { results := [.lit (.bool true)], args := [d1, d2, d3] }
  | _ => none }
def diffRowsRow : OpenClaim := { program := "ytgiajfgeplekbaa", sum := "d6539009358fa9116af63bff88951315230d494f37404bdaecf94a0efec5bf66", func := "skylark/skylarklaw21.DiffRows", spec := "diffRows", inPlace := ["internal/bytealg.abigen_runtime_cmpstring"], unfollowed := true, recurses := true, apart := false }
def DiffRowsSaid : Prop := diffRowsRow.holds Try.pinned (OpenSpec.ofChange diffRowsSpec)

/-- ITS FALSE NEIGHBOUR: 'it returns false'. Refute it at one input. -/
def diffRowsWrong : ChangeSpec := { name := "diffRows", fn := fun _ => fun
  | [d1, d2, d3] => { results := [.lit (.bool false)], args := [d1, d2, d3] }
  | _ => none }
def DiffRowsWrongFalsely : Prop := diffRowsRow.holds Try.pinned (OpenSpec.ofChange diffRowsWrong)

/-- 'skylarklaw21.DiffBack': WHATEVER THE INPUT: true; the input reads as it did. -/
def diffBackSpec : ChangeSpec := { name := "diffBack", fn := fun _ => fun
  | [d1, d2] => { results := [.lit (.bool true)], args := [d1, d2] }
  | _ => none }
def diffBackRow : OpenClaim := { program := "ytgiajfgeplekbaa", sum := "d6539009358fa9116af63bff88951315230d494f37404bdaecf94a0efec5bf66", func := "skylark/skylarklaw21.DiffBack", spec := "diffBack", inPlace := ["internal/bytealg.abigen_runtime_cmpstring"], unfollowed := true, recurses := true, apart := false }
def DiffBackSaid : Prop := diffBackRow.holds Try.pinned (OpenSpec.ofChange diffBackSpec)

/-- ITS FALSE NEIGHBOUR: 'it returns false'. Refute it at one input. -/
def diffBackWrong : ChangeSpec := { name := "diffBack", fn := fun _ => fun
  | [d1, d2] => { results := [.lit (.bool false)], args := [d1, d2] }
  | _ => none }
def DiffBackWrongFalsely : Prop := diffBackRow.holds Try.pinned (OpenSpec.ofChange diffBackWrong)

/-- 'skylarklaw21.DiffRepairs': WHATEVER THE INPUT: true; the input reads as it did. -/
def diffRepairsSpec : ChangeSpec := { name := "diffRepairs", fn := fun _ => fun
  | [d1, d2, d3] => { results := [.lit (.bool true)], args := [d1, d2, d3] }
  | _ => none }
def diffRepairsRow : OpenClaim := { program := "ytgiajfgeplekbaa", sum := "d6539009358fa9116af63bff88951315230d494f37404bdaecf94a0efec5bf66", func := "skylark/skylarklaw21.DiffRepairs", spec := "diffRepairs", inPlace := ["internal/bytealg.abigen_runtime_cmpstring"], unfollowed := true, recurses := true, apart := false }
def DiffRepairsSaid : Prop := diffRepairsRow.holds Try.pinned (OpenSpec.ofChange diffRepairsSpec)

/-- ITS FALSE NEIGHBOUR: 'it returns false'. Refute it at one input. -/
def diffRepairsWrong : ChangeSpec := { name := "diffRepairs", fn := fun _ => fun
  | [d1, d2, d3] => { results := [.lit (.bool false)], args := [d1, d2, d3] }
  | _ => none }
def DiffRepairsWrongFalsely : Prop := diffRepairsRow.holds Try.pinned (OpenSpec.ofChange diffRepairsWrong)

/- THE SECOND FORM. 'bulk': how many values and letters a reading holds, each counted each time it is reached (what is shared counts as often as it is met; a slice's spare places count too). A statement '..UptoSaid' is the law's where the arguments, and the package variables that the reading takes, are together of bulk at most 1048576: NARROWER than '..Said'. Prove '..Said' where nothing that the law and all that it calls make is longer than what came in: it says more and counts as full. Else prove '..UptoSaid'. A law counts once. -/
mutual
def uptoBulk {H : Type} : DataW H → Nat
  | .lit (.string bytes) => bytes.length + 1
  | .lit _ => 1
  | .nil => 1
  | .ptr d => uptoBulk d + 1
  | .slice elems spare => uptoBulkAll elems + uptoBulkAll spare + 1
  | .agg parts => uptoBulkAll parts + 1
  | .iface _ d => uptoBulk d + 1
  | .map entries => uptoBulkEntries entries + 1
  | .held _ => 1
def uptoBulkAll {H : Type} : List (DataW H) → Nat
  | [] => 0
  | d :: r => uptoBulk d + uptoBulkAll r
def uptoBulkEntries {H : Type} : List (Lit × DataW H) → Nat
  | [] => 0
  | x :: r => uptoBulkEntry x + uptoBulkEntries r
def uptoBulkEntry {H : Type} : Lit × DataW H → Nat
  | (.string bytes, d) => bytes.length + uptoBulk d + 1
  | (_, d) => uptoBulk d + 1
 end
def uptoSmall : (H : Type) → List (DataW H) → Bool := fun _ ds => decide (uptoBulkAll ds ≤ 1048576)
def OpenSpec.upto (s : _root_.Go.ChangeSpec) : _root_.Go.OpenSpec := { _root_.Go.OpenSpec.ofChange s with cond := some uptoSmall }

/-- 'skylarklaw21.DiffTurns', WHERE WHAT IT READS IS OF BULK AT MOST 1048576: true; the input reads as it did. -/
def diffTurnsUptoRow : OpenClaim := { program := "ytgiajfgeplekbaa", sum := "d6539009358fa9116af63bff88951315230d494f37404bdaecf94a0efec5bf66", func := "skylark/skylarklaw21.DiffTurns", spec := "diffTurns", inPlace := ["internal/bytealg.abigen_runtime_cmpstring"], unfollowed := true, recurses := true, apart := false, narrowed := true }
def DiffTurnsUptoSaid : Prop := diffTurnsUptoRow.holds Try.pinned (OpenSpec.upto diffTurnsSpec)

/-- 'skylarklaw21.DiffCovers', WHERE WHAT IT READS IS OF BULK AT MOST 1048576: true; the input reads as it did. -/
def diffCoversUptoRow : OpenClaim := { program := "ytgiajfgeplekbaa", sum := "d6539009358fa9116af63bff88951315230d494f37404bdaecf94a0efec5bf66", func := "skylark/skylarklaw21.DiffCovers", spec := "diffCovers", inPlace := ["internal/bytealg.abigen_runtime_cmpstring"], unfollowed := true, recurses := true, apart := false, narrowed := true }
def DiffCoversUptoSaid : Prop := diffCoversUptoRow.holds Try.pinned (OpenSpec.upto diffCoversSpec)

/-- 'skylarklaw21.DiffUnlike', WHERE WHAT IT READS IS OF BULK AT MOST 1048576: true; the input reads as it did. -/
def diffUnlikeUptoRow : OpenClaim := { program := "ytgiajfgeplekbaa", sum := "d6539009358fa9116af63bff88951315230d494f37404bdaecf94a0efec5bf66", func := "skylark/skylarklaw21.DiffUnlike", spec := "diffUnlike", inPlace := ["internal/bytealg.abigen_runtime_cmpstring"], unfollowed := true, recurses := true, apart := false, narrowed := true }
def DiffUnlikeUptoSaid : Prop := diffUnlikeUptoRow.holds Try.pinned (OpenSpec.upto diffUnlikeSpec)

/-- 'skylarklaw21.DiffParts', WHERE WHAT IT READS IS OF BULK AT MOST 1048576: true; the input reads as it did. -/
def diffPartsUptoRow : OpenClaim := { program := "ytgiajfgeplekbaa", sum := "d6539009358fa9116af63bff88951315230d494f37404bdaecf94a0efec5bf66", func := "skylark/skylarklaw21.DiffParts", spec := "diffParts", inPlace := ["internal/bytealg.abigen_runtime_cmpstring"], unfollowed := true, recurses := true, apart := false, narrowed := true }
def DiffPartsUptoSaid : Prop := diffPartsUptoRow.holds Try.pinned (OpenSpec.upto diffPartsSpec)

/-- 'skylarklaw21.DiffRows', WHERE WHAT IT READS IS OF BULK AT MOST 1048576: true; the input reads as it did. -/
def diffRowsUptoRow : OpenClaim := { program := "ytgiajfgeplekbaa", sum := "d6539009358fa9116af63bff88951315230d494f37404bdaecf94a0efec5bf66", func := "skylark/skylarklaw21.DiffRows", spec := "diffRows", inPlace := ["internal/bytealg.abigen_runtime_cmpstring"], unfollowed := true, recurses := true, apart := false, narrowed := true }
def DiffRowsUptoSaid : Prop := diffRowsUptoRow.holds Try.pinned (OpenSpec.upto diffRowsSpec)

/-- 'skylarklaw21.DiffBack', WHERE WHAT IT READS IS OF BULK AT MOST 1048576: true; the input reads as it did. -/
def diffBackUptoRow : OpenClaim := { program := "ytgiajfgeplekbaa", sum := "d6539009358fa9116af63bff88951315230d494f37404bdaecf94a0efec5bf66", func := "skylark/skylarklaw21.DiffBack", spec := "diffBack", inPlace := ["internal/bytealg.abigen_runtime_cmpstring"], unfollowed := true, recurses := true, apart := false, narrowed := true }
def DiffBackUptoSaid : Prop := diffBackUptoRow.holds Try.pinned (OpenSpec.upto diffBackSpec)

/-- 'skylarklaw21.DiffRepairs', WHERE WHAT IT READS IS OF BULK AT MOST 1048576: true; the input reads as it did. -/
def diffRepairsUptoRow : OpenClaim := { program := "ytgiajfgeplekbaa", sum := "d6539009358fa9116af63bff88951315230d494f37404bdaecf94a0efec5bf66", func := "skylark/skylarklaw21.DiffRepairs", spec := "diffRepairs", inPlace := ["internal/bytealg.abigen_runtime_cmpstring"], unfollowed := true, recurses := true, apart := false, narrowed := true }
def DiffRepairsUptoSaid : Prop := diffRepairsUptoRow.holds Try.pinned (OpenSpec.upto diffRepairsSpec)

end Rows
end Go.Proofs.Ytgiajfgeplekbaa

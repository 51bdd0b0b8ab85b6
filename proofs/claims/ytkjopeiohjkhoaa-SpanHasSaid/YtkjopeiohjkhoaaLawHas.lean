/- SpanHas: whatever the input, the law returns true, and the arguments read as they did. No condition. -/
import Derived.Test.YtkjopeiohjkhoaaRows
import Derived.Test.YtkjopeiohjkhoaaSb
import Derived.Test.YtkjopeiohjkhoaaSl5
import Derived.WalkKit
import Derived.ProofKit
import Derived.OpenShut
import Derived.ShutString
import Derived.ChangeOld
import Derived.Below
import Derived.SizedLaws
import Derived.Carry
namespace Go.Proofs.Ytkjopeiohjkhoaa.spanHas
open Go.ChangeShapes Go.WideShapes Go.ChangeAt Go.RowKit
open Go.ChangeMaps (open_string shut_string)
set_option linter.unusedVariables false
theorem own : ownKnob Try.prog.godebug = none := by kernel_rfl
theorem laidOut : laidOutB Try.prog = true := by kernel_rfl
set_option maxRecDepth 100000 in
theorem lifted (os : Os) (started : os.Started) (H : Type) (enc : TypeId × Value → H) :
    ReturnsInHanded {} Try.checked os 7 .any (Rows.spanHasSpec.pre6 enc Try.prog Try.f7 Rows.spanHasRow.domain false) (Rows.spanHasSpec.post enc Try.prog Try.f7 false true false false) := by
  refine returnsInHanded_of_change_sized (C := Try.checked) own started (by kernel_rfl) Try.func7
    (ChangeSpec.witness6 (enc := enc) (C := Try.checked) false ⟨#[], #[.slice none 0 0, .string ByteArray.empty], []⟩ 8 (by kernel_rfl) (by kernel_rfl) (by kernel_rfl) (by kernel_rfl)) ?_
  intro W base args ds gs before hval0 hW hcnd hsz0 _
  have hval : ∀ (j : Nat) t v, Try.f7.params[j]? = some t → args[j]? = some v → Value.okWide Try.prog W .any base t v := hval0
  have hW' := hW
  obtain ⟨p, q, hA0, hV, rfl, hfz, hnd⟩ := hW
  have hA : DataW.TrodAll enc Try.prog W 0 (fun _ => true) true Try.f7.params.toList args.toList ds p := hA0
  rw [Try.params7] at hA hval
  obtain ⟨v0, vs0, d0, ds0, p0, q0, hargs, rfl, rfl, h0, r0⟩ := trodAll_cons hA
  obtain ⟨v1, vs1, d1, ds1, p1, q1, rfl, rfl, rfl, h1, r1⟩ := trodAll_cons r0
  obtain ⟨rfl, rfl, rfl⟩ := trodAll_nil r1
  obtain rfl : args = #[v0, v1] := by cases args; simp_all
  obtain ⟨rfl, rfl⟩ := trodVars_none hV
  obtain ⟨a0, len0, cap0, rfl⟩ := okWide_slice Try.underlying22 (hval 0 22 v0 rfl rfl)
  have k0 := h0
  have lt0 : ∀ x ∈ p0, x.block < W.heap.size := by obtain ⟨m, hm⟩ := k0; exact DataW.trod_lt m _ _ _ hm
  obtain ⟨os0, oi0⟩ : ∃ (os0 : List SpanR), Rd W.heap.size 35 W 2 a0 len0 cap0 (os0.flatMap SpanR.enc) := by
    obtain ⟨fuel, hf⟩ := h0
    obtain ⟨A, n, c, ops, hcs, h1⟩ := open_spans hf
    simp [Value.cells] at hcs
    obtain ⟨rfl, rfl, rfl⟩ := hcs
    exact ⟨ops, h1⟩
  obtain ⟨a1, rfl, rfl, rfl, y1⟩ := open_string Try.underlying9 (hval 1 9 v1 rfl rfl) h1
  have sl0 : len0 = 0 ∨ ∃ es rest, d0 = .slice es rest ∧ es.length = len0 := by
    obtain ⟨fuel, hf⟩ := k0
    exact open_len Try.underlying22 hf rfl
  have sz0 : len0 * 32 ≤ 140737488355328 := by
    rcases sl0 with h | ⟨es, rest, h1, h2⟩
    · omega
    · subst h1
      have := sized_slice hsz0 (j := 0) (t := 22) (e := 35) rfl rfl Try.underlying22
      rw [show Try.checked.prog.bytesOf 35 = 32 by kernel_rfl] at this
      unfold reachBytes at this
      omega
  clear hA0 hval0 hsz0
  refine (SpanHas_walk oi0 a1 sz0).mono fun e W' ⟨he, bel⟩ => ?_
  subst he
  exact ⟨_, rfl, _, _, _, [], _, [], hW', trodAll_mk1 (shut_bool Try.underlying4 _), (trodAll_cons_mk (Below.trod laidOut (by kernel_rfl) (of_decide_eq_true (by kernel_rfl)) k0 bel lt0) (trodAll_cons_mk (shut_string Try.underlying9 y1) trodAll_mk0)), rfl, bel.frame _, fun h => by cases h⟩
theorem over : Rows.spanHasRow.holds Try.pinned (OpenSpec.ofChange Rows.spanHasSpec) :=
  OpenClaim.holds_of_wide 7 Try.f7 rfl rfl rfl rfl rfl rfl rfl ⟨rfl, rfl, rfl, rfl, rfl⟩ rfl rfl rfl rfl rfl (by kernel_rfl) Try.func7 (by kernel_rfl)
    (of_decide_eq_true (by kernel_rfl)) (by unfold Func.isWrapper; first | (rw [if_pos (by decide +kernel)]; kernel_rfl) | (rw [if_neg (by decide +kernel)]; exact ⟨rfl, rfl⟩))
    (fun os started H enc _ => lifted os started H enc)
theorem proved : Rows.SpanHasSaid := over
#print axioms proved
end Go.Proofs.Ytkjopeiohjkhoaa.spanHas
namespace Go.Proofs.Ytkjopeiohjkhoaa
/-- The row, under a short name, for the claim. -/
theorem spanHas_holds : Rows.SpanHasSaid := spanHas.proved
end Go.Proofs.Ytkjopeiohjkhoaa

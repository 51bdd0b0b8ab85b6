/- Arguments opened: requests one by one. -/
import Derived.Test.YtlhjfblpinpjiaaAe
import Derived.Test.YtlhjfblpinpjiaaG2
import Derived.SizedLaws
set_option linter.unusedVariables false
set_option linter.unusedSimpArgs false
namespace Go.Proofs.Ytlhjfblpinpjiaa
open Go.RowKit Go.ChangeShapes Go.WideShapes Go.ChangeAt Go.Deep

section
variable {H : Type} {enc : TypeId × Value → H} {w : World} {base : Nat} {spare : Nat → Bool} {held : Bool}
set_option maxRecDepth 100000 in
theorem open_turns {fuel : Nat} {cs : List Value} {x : DataW H × List MemPlace} (h : DataW.trod enc Try.prog w base spare held fuel 30 cs = some x) (hw : Wt Try.prog 30 x.1) :
    ∃ A n c, ∃ ts : List TurnR, cs = [.slice A n c] ∧ Turns w.heap.size w A n c ts := by
  have hlen : ∀ A n c, cs = [.slice A n c] → n ≤ 140737488355328 := by
    rintro A n c rfl
    have hb := open_len Try.underlying30 h hw
    rw [show Try.prog.bytesOf 78 = 64 by kernel_rfl] at hb
    unfold reachBytes at hb
    omega
  rcases open_slice Try.underlying30 h with ⟨rfl, _⟩ | ⟨a, len, cap, m, n, D, Pl, rfl, hb, hl, hm, hmm, hx, hi⟩
  · exact ⟨none, 0, 0, [], rfl, ⟨Rd.none_, fun a ha => (by cases ha), by omega⟩⟩
  · have hC : Try.prog.cellsOf 78 = 6 := by kernel_rfl
    rw [hC] at hi
    have hall : ∀ i, i < len → ∃ y : TurnR, (∀ j v, y.enc[j]? = some v → w.cell? (a.add (i * 6 + j)) = some v) ∧ TurnIn w.heap.size w y := by
      intro i hil
      have him : i < m := by rw [hmm]; split <;> omega
      obtain ⟨cs', hc, ht'⟩ := hi i him
      obtain ⟨_, hcl, hat⟩ := World.cells?_some hc
      have hwD : Wt Try.prog 78 (D i) := by
        rw [hx] at hw
        exact hw.elem Try.underlying30 (List.mem_map_of_mem (List.mem_range.2 hil))
      obtain ⟨ys, n', hn', hy, hlen, hyl, hf⟩ := DataW.trod_struct Try.underlying78 ht'
      have hyl4 : ys.length = 4 := hyl
      match cs', hcl with
      | [c0, c1, c2, c3, c4, c5], _ =>
        have s0 : ys[0]? = some (ys[0]'(by omega)) := List.getElem?_eq_getElem (by omega)
        have s1 : ys[1]? = some (ys[1]'(by omega)) := List.getElem?_eq_getElem (by omega)
        have s2 : ys[2]? = some (ys[2]'(by omega)) := List.getElem?_eq_getElem (by omega)
        have s3 : ys[3]? = some (ys[3]'(by omega)) := List.getElem?_eq_getElem (by omega)
        have t0 : DataW.trod enc Try.prog w base spare held n' 39 [c0, c1, c2] = some (ys[0]'(by omega)) := (hf 0 _ rfl).trans s0
        have t1 : DataW.trod enc Try.prog w base spare held n' 3 [c3] = some (ys[1]'(by omega)) := (hf 1 _ rfl).trans s1
        have t2 : DataW.trod enc Try.prog w base spare held n' 3 [c4] = some (ys[2]'(by omega)) := (hf 2 _ rfl).trans s2
        have t3 : DataW.trod enc Try.prog w base spare held n' 4 [c5] = some (ys[3]'(by omega)) := (hf 3 _ rfl).trans s3
        have hD : D i = .agg (ys.map (·.1)) := congrArg Prod.fst hy
        rw [hD] at hwD
        have w0 : Wt Try.prog 39 (ys[0]'(by omega)).1 := hwD.part Try.underlying78 (j := 0) rfl (by rw [List.getElem?_map, s0]; rfl)
        obtain ⟨cl, sq, oA, on, oc, ops, rq⟩ := open_req t0 w0
        obtain ⟨z1, e1, _, _⟩ := DataW.trod_int (k := .i64) (by kernel_rfl) t1
        obtain ⟨z2, e2, _, _⟩ := DataW.trod_int (k := .i64) (by kernel_rfl) t2
        obtain ⟨z3, e3, _⟩ := DataW.trod_bool (by kernel_rfl) t3
        injection e1 with e1 _; injection e2 with e2 _; injection e3 with e3 _
        subst e1 e2 e3
        obtain rfl := rq.e0
        obtain rfl := rq.e1
        obtain rfl := rq.e2
        refine ⟨⟨cl, sq, oA, on, oc, z1, z2, z3, ops⟩, fun j v hj => ?_, ⟨rq.rd, fun x hx => rq.fits x hx, by have := rq.big; simp only; omega⟩⟩
        have hjl : j < 6 := (List.getElem?_eq_some_iff.1 hj).1
        have := hat j hjl
        rw [Go.Deep.add_add] at this
        rw [this]
        exact hj
    obtain ⟨ts, hlen2, hp⟩ := list_choice (fun i (y : TurnR) => (∀ j v, y.enc[j]? = some v → w.cell? (a.add (i * 6 + j)) = some v) ∧ TurnIn w.heap.size w y) len hall
    refine ⟨some a, len, cap, ts, rfl, ⟨Rd.mk_enc (k := 6) (fun _ => rfl) (by omega) hlen2 hl (fun i hi => (hp i hi).1), fun y hy => ?_, hlen _ _ _ rfl⟩⟩
    obtain ⟨i, hi, rfl⟩ := List.getElem_of_mem hy
    exact (hp i hi).2
end
end Go.Proofs.Ytlhjfblpinpjiaa

/- Arguments opened: the calls of a table. -/
import Derived.Test.YtehfaeafefkngaaAs
import Derived.Test.YtehfaeafefkngaaV16
import Derived.SizedLaws
set_option linter.unusedVariables false
set_option linter.unusedSimpArgs false
namespace Go.Proofs.Ytehfaeafefkngaa
open Go.RowKit Go.ChangeShapes Go.WideShapes Go.ChangeAt Go.Deep

/-- All that is reached is of a size that fits. -/
def Wt {H : Type} (P : Program) (t : TypeId) (d : DataW H) : Prop := ∀ n ∈ d.weights P t, n ≤ reachBytes
theorem Wt.elem {H : Type} {P : Program} {t e : TypeId} {elems rest : List (DataW H)} (h : Wt P t (.slice elems rest)) (hu : P.underlying t = some (.slice e)) {d : DataW H} (hd : d ∈ elems) : Wt P e d := by
  have hall : ∀ (l : List (DataW H)), d ∈ l → ∀ n ∈ d.weights P e, n ∈ DataW.weightsAll P e l := by
    intro l
    induction l with
    | nil => intro h; cases h
    | cons x r ih =>
      intro hm n hn
      simp only [DataW.weightsAll, List.mem_append]
      rcases List.mem_cons.1 hm with rfl | hm
      · exact .inl hn
      · exact .inr (ih hm n hn)
  intro n hn
  refine h n ?_
  simp only [DataW.weights, hu, List.mem_cons, List.mem_append]
  exact .inr (.inl (hall elems hd n hn))
theorem Wt.part {H : Type} {P : Program} {t : TypeId} {fs : Array Field} {parts : List (DataW H)} (h : Wt P t (.agg parts)) (hu : P.underlying t = some (.struct fs)) {j : Nat} {f : Field} {d : DataW H} (hf : fs[j]? = some f) (hd : parts[j]? = some d) : Wt P f.type d := by
  intro n hn
  refine h n ?_
  simp only [DataW.weights, hu]
  exact DataW.weights_mem_each (j := j) (t := f.type) (d := d) (by rw [List.getElem?_map, Array.getElem?_toList, hf]; rfl) hd n hn
theorem Wt.len {H : Type} {P : Program} {t e : TypeId} {elems rest : List (DataW H)} (h : Wt P t (.slice elems rest)) (hu : P.underlying t = some (.slice e)) : (elems.length + rest.length) * P.bytesOf e ≤ reachBytes :=
  h _ (by simp [DataW.weights, hu])
theorem Wt.top {H : Type} {P : Program} {ts : List TypeId} {ds : List (DataW H)} (h : (DataW.weightsEach P ts ds).all (· ≤ reachBytes) = true) {j : Nat} {t : TypeId} {d : DataW H} (ht : ts[j]? = some t) (hd : ds[j]? = some d) : Wt P t d := fun n hn => by
  have := List.all_eq_true.1 h n (DataW.weights_mem_each ht hd n hn)
  simpa using this

section
variable {H : Type} {enc : TypeId × Value → H} {w : World} {base : Nat} {spare : Nat → Bool} {held : Bool}
theorem open_rows {fuel : Nat} {cs : List Value} {x : DataW H × List MemPlace} (h : DataW.trod enc Try.prog w base spare held fuel 37 cs = some x) :
    ∃ A n c, ∃ rows : List Rw, cs = [.slice A n c] ∧ Rd w.heap.size 53 w 3 A n c (rowCells rows) := by
  rcases open_slice_fields Try.underlying37 Try.underlying53 (by kernel_rfl) (by kernel_rfl) h with rfl | ⟨a, len, cap, rfl, hl, hf⟩
  · exact ⟨none, 0, 0, [], rfl, Rd.none_⟩
  · have hall : ∀ i, i < len → ∃ x : Rw, ∀ j v, x.enc[j]? = some v → w.cell? (a.add (i * 3 + j)) = some v := by
      intro i hi
      obtain ⟨v0, n0, y0, k0, t0⟩ := hf i hi 0 _ rfl
      obtain ⟨v1, n1, y1, k1, t1⟩ := hf i hi 1 _ rfl
      obtain ⟨v2, n2, y2, k2, t2⟩ := hf i hi 2 _ rfl
      obtain ⟨z0, e0, _, _⟩ := DataW.trod_string (by kernel_rfl) t0
      obtain ⟨z1, e1, _, _⟩ := DataW.trod_int (k := .i64) (by kernel_rfl) t1
      obtain ⟨z2, e2, _, _⟩ := DataW.trod_string (by kernel_rfl) t2
      injection e0 with e0 _; injection e1 with e1 _; injection e2 with e2 _
      subst e0 e1 e2
      refine ⟨⟨z0, z1, z2⟩, fun j v hj => ?_⟩
      match j, hj with
      | 0, hj => injection hj with hj; subst hj; exact k0
      | 1, hj => injection hj with hj; subst hj; exact k1
      | 2, hj => injection hj with hj; subst hj; exact k2
      | j + 3, hj => simp [Rw.enc] at hj
    obtain ⟨rows, hlen, hp⟩ := list_choice (fun i (x : Rw) => ∀ j v, x.enc[j]? = some v → w.cell? (a.add (i * 3 + j)) = some v) len hall
    exact ⟨some a, len, cap, rows, rfl, Rd.mk_enc (k := 3) (fun _ => rfl) (by omega) hlen hl (fun i hi => hp i hi)⟩
theorem open_len {P : Program} {t e : TypeId} {fuel A n c : _} {x : DataW H × List MemPlace} (ht : P.underlying t = some (.slice e)) (h : DataW.trod enc P w base spare held fuel t [.slice A n c] = some x) (hw : Wt P t x.1) : n * P.bytesOf e ≤ reachBytes := by
  rcases open_slice ht h with ⟨h0, _⟩ | ⟨a, len, cap, m, nn, D, Pl, hcs, hb, hl, hm, hmm, hx, hi⟩
  · injection h0 with h0 _
    injection h0 with _ h1 _
    subst h1
    simp
  · injection hcs with hcs _
    injection hcs with _ h1 _
    subst h1
    rw [hx] at hw
    have := hw.len ht
    simp only [List.length_map, List.length_range] at this
    refine Nat.le_trans (Nat.mul_le_mul_right _ ?_) this
    omega
set_option maxRecDepth 100000 in
theorem open_acts {fuel : Nat} {cs : List Value} {x : DataW H × List MemPlace} (h : DataW.trod enc Try.prog w base spare held fuel 61 cs = some x) (hw : Wt Try.prog 61 x.1) :
    ∃ A n c, ∃ acts : List ActR, cs = [.slice A n c] ∧ Rd w.heap.size 66 w 5 A n c (acts.flatMap ActR.cs) ∧ ∀ a ∈ acts, ActIn w.heap.size w a := by
  rcases open_slice Try.underlying61 h with ⟨rfl, _⟩ | ⟨a, len, cap, m, n, D, Pl, rfl, hb, hl, hm, hmm, hx, hi⟩
  · exact ⟨none, 0, 0, [], rfl, Rd.none_, fun a ha => by cases ha⟩
  · have hC : Try.prog.cellsOf 66 = 5 := by kernel_rfl
    rw [hC] at hi
    have hall : ∀ i, i < len → ∃ y : ActR, (∀ j v, y.cs[j]? = some v → w.cell? (a.add (i * 5 + j)) = some v) ∧ ActIn w.heap.size w y := by
      intro i hil
      have him : i < m := by rw [hmm]; split <;> omega
      obtain ⟨cs', hc, ht'⟩ := hi i him
      obtain ⟨_, hcl, hat⟩ := World.cells?_some hc
      have hwD : Wt Try.prog 66 (D i) := by
        rw [hx] at hw
        exact hw.elem Try.underlying61 (List.mem_map_of_mem (List.mem_range.2 hil))
      obtain ⟨ys, n', hn', hy, hlen, hyl, hf⟩ := DataW.trod_struct Try.underlying66 ht'
      have hyl4 : ys.length = 4 := hyl
      match cs', hcl with
      | [c0, c1, c2, c3, c4], _ =>
        have f0 := hf 0 _ rfl
        have f1 := hf 1 _ rfl
        have f2 := hf 2 _ rfl
        have f3 := hf 3 _ rfl
        have s0 : ys[0]? = some (ys[0]'(by omega)) := List.getElem?_eq_getElem (by omega)
        have s1 : ys[1]? = some (ys[1]'(by omega)) := List.getElem?_eq_getElem (by omega)
        have s2 : ys[2]? = some (ys[2]'(by omega)) := List.getElem?_eq_getElem (by omega)
        have s3 : ys[3]? = some (ys[3]'(by omega)) := List.getElem?_eq_getElem (by omega)
        have t0 : DataW.trod enc Try.prog w base spare held n' 3 [c0] = some (ys[0]'(by omega)) := f0.trans s0
        have t1 : DataW.trod enc Try.prog w base spare held n' 22 [c1] = some (ys[1]'(by omega)) := f1.trans s1
        have t2 : DataW.trod enc Try.prog w base spare held n' 46 [c2, c3] = some (ys[2]'(by omega)) := f2.trans s2
        have t3 : DataW.trod enc Try.prog w base spare held n' 37 [c4] = some (ys[3]'(by omega)) := f3.trans s3
        have hD : D i = .agg (ys.map (·.1)) := congrArg Prod.fst hy
        rw [hD] at hwD
        have w1 : Wt Try.prog 22 (ys[1]'(by omega)).1 := hwD.part Try.underlying66 (j := 1) rfl (by rw [List.getElem?_map, s1]; rfl)
        obtain ⟨z0, e0, _, _⟩ := DataW.trod_int (k := .i64) (by kernel_rfl) t0
        obtain ⟨A1, n1, c1', ops, e1, hrd, hfit⟩ := open_ops t1
        obtain ⟨A3, n3, c3', rows, e3, hrr⟩ := open_rows t3
        have F := fields_of Try.underlying46 (by kernel_rfl) (show ([c2, c3] : List Value).length = _ from rfl) t2
        obtain ⟨u0, _, _, k0, q0⟩ := F 0 _ rfl
        obtain ⟨u1, _, _, k1, q1⟩ := F 1 _ rfl
        injection k0 with k0; injection k1 with k1
        subst k0 k1
        obtain ⟨g0, e4, _, _⟩ := DataW.trod_string (by kernel_rfl) q0
        obtain ⟨g1, e5, _, _⟩ := DataW.trod_string (by kernel_rfl) q1
        injection e0 with e0 _; injection e1 with e1 _; injection e3 with e3 _; injection e4 with e4 _; injection e5 with e5 _
        subst e0 e1 e3 e4 e5
        have hb := open_len Try.underlying22 t1 w1
        rw [show Try.prog.bytesOf 28 = 64 by kernel_rfl] at hb
        unfold reachBytes at hb
        refine ⟨⟨z0, ⟨A1, n1, c1'⟩, ops, ⟨g0, g1⟩, ⟨A3, n3, c3'⟩, rows⟩, fun j v hj => ?_, ⟨hrd, hfit, hb, hrr⟩⟩
        have hjl : j < 5 := (List.getElem?_eq_some_iff.1 hj).1
        have := hat j hjl
        rw [Go.Deep.add_add] at this
        rw [this]
        exact hj
    obtain ⟨acts, hlen, hp⟩ := list_choice (fun i (y : ActR) => (∀ j v, y.cs[j]? = some v → w.cell? (a.add (i * 5 + j)) = some v) ∧ ActIn w.heap.size w y) len hall
    refine ⟨some a, len, cap, acts, rfl, Rd.mk_enc (k := 5) (fun _ => rfl) (by omega) hlen hl (fun i hi => (hp i hi).1), fun y hy => ?_⟩
    obtain ⟨i, hi, rfl⟩ := List.getElem_of_mem hy
    exact (hp i hi).2
end
end Go.Proofs.Ytehfaeafefkngaa

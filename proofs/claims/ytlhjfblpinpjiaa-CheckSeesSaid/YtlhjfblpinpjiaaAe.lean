/- Arguments opened: a history. -/
import Derived.Test.YtlhjfblpinpjiaaAs
import Derived.Test.YtlhjfblpinpjiaaC4
import Derived.SizedLaws
set_option linter.unusedVariables false
set_option linter.unusedSimpArgs false
namespace Go.Proofs.Ytlhjfblpinpjiaa
open Go.RowKit Go.ChangeShapes Go.WideShapes Go.ChangeAt Go.Deep

/-- All that is reached is of a size that fits. -/
def Wt {H : Type} (P : Program) (t : TypeId) (d : DataW H) : Prop := ∀ n ∈ d.weights P t, n ≤ reachBytes
theorem Wt.elem {H : Type} {P : Program} {t e : TypeId} {elems rest : List (DataW H)} (h : Wt P t (.slice elems rest)) (hu : P.underlying t = some (.slice e)) {d : DataW H} (hd : d ∈ elems) : Wt P e d := by
  have hall : ∀ (l : List (DataW H)), d ∈ l → ∀ n ∈ d.weights P e, n ∈ DataW.weightsAll P e l := by
    intro l
    induction l with
    | nil => intro h; cases h
    | cons x r ih =>
      intro hm n hn
      simp only [DataW.weightsAll, List.mem_append]
      rcases List.mem_cons.1 hm with rfl | hm
      · exact .inl hn
      · exact .inr (ih hm n hn)
  intro n hn
  refine h n ?_
  simp only [DataW.weights, hu, List.mem_cons, List.mem_append]
  exact .inr (.inl (hall elems hd n hn))
theorem Wt.part {H : Type} {P : Program} {t : TypeId} {fs : Array Field} {parts : List (DataW H)} (h : Wt P t (.agg parts)) (hu : P.underlying t = some (.struct fs)) {j : Nat} {f : Field} {d : DataW H} (hf : fs[j]? = some f) (hd : parts[j]? = some d) : Wt P f.type d := by
  intro n hn
  refine h n ?_
  simp only [DataW.weights, hu]
  exact DataW.weights_mem_each (j := j) (t := f.type) (d := d) (by rw [List.getElem?_map, Array.getElem?_toList, hf]; rfl) hd n hn
theorem Wt.len {H : Type} {P : Program} {t e : TypeId} {elems rest : List (DataW H)} (h : Wt P t (.slice elems rest)) (hu : P.underlying t = some (.slice e)) : (elems.length + rest.length) * P.bytesOf e ≤ reachBytes :=
  h _ (by simp [DataW.weights, hu])
theorem Wt.top {H : Type} {P : Program} {ts : List TypeId} {ds : List (DataW H)} (h : (DataW.weightsEach P ts ds).all (· ≤ reachBytes) = true) {j : Nat} {t : TypeId} {d : DataW H} (ht : ts[j]? = some t) (hd : ds[j]? = some d) : Wt P t d := fun n hn => by
  have := List.all_eq_true.1 h n (DataW.weights_mem_each ht hd n hn)
  simpa using this

section
variable {H : Type} {enc : TypeId × Value → H} {w : World} {base : Nat} {spare : Nat → Bool} {held : Bool}
theorem open_rows {fuel : Nat} {cs : List Value} {x : DataW H × List MemPlace} (h : DataW.trod enc Try.prog w base spare held fuel 45 cs = some x) :
    ∃ A n c, ∃ rows : List Rw, cs = [.slice A n c] ∧ Rd w.heap.size 86 w 3 A n c (rowCells rows) := by
  rcases open_slice_fields Try.underlying45 Try.underlying86 (by kernel_rfl) (by kernel_rfl) h with rfl | ⟨a, len, cap, rfl, hl, hf⟩
  · exact ⟨none, 0, 0, [], rfl, Rd.none_⟩
  · have hall : ∀ i, i < len → ∃ x : Rw, ∀ j v, x.enc[j]? = some v → w.cell? (a.add (i * 3 + j)) = some v := by
      intro i hi
      obtain ⟨v0, n0, y0, k0, t0⟩ := hf i hi 0 _ rfl
      obtain ⟨v1, n1, y1, k1, t1⟩ := hf i hi 1 _ rfl
      obtain ⟨v2, n2, y2, k2, t2⟩ := hf i hi 2 _ rfl
      obtain ⟨z0, e0, _, _⟩ := DataW.trod_string (by kernel_rfl) t0
      obtain ⟨z1, e1, _, _⟩ := DataW.trod_int (k := .i64) (by kernel_rfl) t1
      obtain ⟨z2, e2, _, _⟩ := DataW.trod_string (by kernel_rfl) t2
      injection e0 with e0 _; injection e1 with e1 _; injection e2 with e2 _
      subst e0 e1 e2
      refine ⟨⟨z0, z1, z2⟩, fun j v hj => ?_⟩
      match j, hj with
      | 0, hj => injection hj with hj; subst hj; exact k0
      | 1, hj => injection hj with hj; subst hj; exact k1
      | 2, hj => injection hj with hj; subst hj; exact k2
      | j + 3, hj => simp [Rw.enc] at hj
    obtain ⟨rows, hlen, hp⟩ := list_choice (fun i (x : Rw) => ∀ j v, x.enc[j]? = some v → w.cell? (a.add (i * 3 + j)) = some v) len hall
    exact ⟨some a, len, cap, rows, rfl, Rd.mk_enc (k := 3) (fun _ => rfl) (by omega) hlen hl (fun i hi => hp i hi)⟩
theorem open_len {P : Program} {t e : TypeId} {fuel A n c : _} {x : DataW H × List MemPlace} (ht : P.underlying t = some (.slice e)) (h : DataW.trod enc P w base spare held fuel t [.slice A n c] = some x) (hw : Wt P t x.1) : n * P.bytesOf e ≤ reachBytes := by
  rcases open_slice ht h with ⟨h0, _⟩ | ⟨a, len, cap, m, nn, D, Pl, hcs, hb, hl, hm, hmm, hx, hi⟩
  · injection h0 with h0 _
    injection h0 with _ h1 _
    subst h1
    simp
  · injection hcs with hcs _
    injection hcs with _ h1 _
    subst h1
    rw [hx] at hw
    have := hw.len ht
    simp only [List.length_map, List.length_range] at this
    refine Nat.le_trans (Nat.mul_le_mul_right _ ?_) this
    omega

theorem all2_pairs {α β : Type} {R : α → β → Prop} : ∀ (l : List (α × β)), (∀ p ∈ l, R p.1 p.2) → All2 R (l.map Prod.fst) (l.map Prod.snd)
  | [], _ => trivial
  | p :: l, h => ⟨h p (by simp), all2_pairs l (fun q hq => h q (by simp [hq]))⟩
set_option maxRecDepth 100000 in
theorem open_results {fuel : Nat} {cs : List Value} {x : DataW H × List MemPlace} (h : DataW.trod enc Try.prog w base spare held fuel 40 cs = some x) (hw : Wt Try.prog 40 x.1) :
    ∃ A n c, ∃ (rr : List RRes) (rs : List Res), cs = [.slice A n c] ∧ Rd w.heap.size 47 w 4 A n c (resCells rr) ∧ All2 (RIn w.heap.size w) rr rs := by
  rcases open_slice Try.underlying40 h with ⟨rfl, _⟩ | ⟨a, len, cap, m, n, D, Pl, rfl, hb, hl, hm, hmm, hx, hi⟩
  · exact ⟨none, 0, 0, [], [], rfl, Rd.none_, trivial⟩
  · have hC : Try.prog.cellsOf 47 = 4 := by kernel_rfl
    rw [hC] at hi
    have hall : ∀ i, i < len → ∃ y : RRes × Res, (∀ j v, y.1.enc[j]? = some v → w.cell? (a.add (i * 4 + j)) = some v) ∧ RIn w.heap.size w y.1 y.2 := by
      intro i hil
      have him : i < m := by rw [hmm]; split <;> omega
      obtain ⟨cs', hc, ht'⟩ := hi i him
      obtain ⟨_, hcl, hat⟩ := World.cells?_some hc
      have hwD : Wt Try.prog 47 (D i) := by
        rw [hx] at hw
        exact hw.elem Try.underlying40 (List.mem_map_of_mem (List.mem_range.2 hil))
      obtain ⟨ys, n', hn', hy, hlen, hyl, hf⟩ := DataW.trod_struct Try.underlying47 ht'
      have hyl4 : ys.length = 4 := hyl
      match cs', hcl with
      | [c0, c1, c2, c3], _ =>
        have s0 : ys[0]? = some (ys[0]'(by omega)) := List.getElem?_eq_getElem (by omega)
        have s1 : ys[1]? = some (ys[1]'(by omega)) := List.getElem?_eq_getElem (by omega)
        have s2 : ys[2]? = some (ys[2]'(by omega)) := List.getElem?_eq_getElem (by omega)
        have s3 : ys[3]? = some (ys[3]'(by omega)) := List.getElem?_eq_getElem (by omega)
        have t0 : DataW.trod enc Try.prog w base spare held n' 25 [c0] = some (ys[0]'(by omega)) := (hf 0 _ rfl).trans s0
        have t1 : DataW.trod enc Try.prog w base spare held n' 3 [c1] = some (ys[1]'(by omega)) := (hf 1 _ rfl).trans s1
        have t2 : DataW.trod enc Try.prog w base spare held n' 9 [c2] = some (ys[2]'(by omega)) := (hf 2 _ rfl).trans s2
        have t3 : DataW.trod enc Try.prog w base spare held n' 45 [c3] = some (ys[3]'(by omega)) := (hf 3 _ rfl).trans s3
        have hD : D i = .agg (ys.map (·.1)) := congrArg Prod.fst hy
        rw [hD] at hwD
        have w3 : Wt Try.prog 45 (ys[3]'(by omega)).1 := hwD.part Try.underlying47 (j := 3) rfl (by rw [List.getElem?_map, s3]; rfl)
        obtain ⟨z0, e0, _, _⟩ := DataW.trod_int (k := .i64) (by kernel_rfl) t0
        obtain ⟨z1, e1, _, _⟩ := DataW.trod_int (k := .i64) (by kernel_rfl) t1
        obtain ⟨z2, e2, _, _⟩ := DataW.trod_string (by kernel_rfl) t2
        obtain ⟨A3, n3, c3', rows, e3, hrr⟩ := open_rows t3
        injection e0 with e0 _; injection e1 with e1 _; injection e2 with e2 _; injection e3 with e3 _
        subst e0 e1 e2 e3
        have hb := open_len Try.underlying45 t3 w3
        rw [show Try.prog.bytesOf 86 = 40 by kernel_rfl] at hb
        unfold reachBytes at hb
        refine ⟨⟨⟨z0, z1, z2, A3, n3, c3'⟩, ⟨z0, z1, z2, rows⟩⟩, fun j v hj => ?_, ⟨rfl, rfl, rfl, hrr, by simp only; omega⟩⟩
        have hjl : j < 4 := (List.getElem?_eq_some_iff.1 hj).1
        have := hat j hjl
        rw [Go.Deep.add_add] at this
        rw [this]
        exact hj
    obtain ⟨l, hlen, hp⟩ := list_choice (fun i (y : RRes × Res) => (∀ j v, y.1.enc[j]? = some v → w.cell? (a.add (i * 4 + j)) = some v) ∧ RIn w.heap.size w y.1 y.2) len hall
    have hrd := Rd.mk_enc (T := 47) (enc := fun p : RRes × Res => p.1.enc) (k := 4) (fun _ => rfl) (by omega) hlen hl (fun i hi => (hp i hi).1)
    refine ⟨some a, len, cap, l.map Prod.fst, l.map Prod.snd, rfl, ?_, all2_pairs l fun y hy => ?_⟩
    · unfold resCells
      rw [List.flatMap_map]
      exact hrd
    · obtain ⟨i, hi, rfl⟩ := List.getElem_of_mem hy
      exact (hp i hi).2

/-- A request's fields, out of its three cells. -/
structure ReqIn (w : World) (c0 c1 c2 : Value) (cl sq : Int) (A : Option Addr) (n c : Nat) (ops : List OpR) : Prop where
  e0 : c0 = .int .i64 cl
  e1 : c1 = .int .i64 sq
  e2 : c2 = .slice A n c
  rd : Rd w.heap.size 64 w 6 A n c (opCells ops)
  fits : ∀ x ∈ ops, FitsR x
  big : n * 64 ≤ 140737488351232
set_option maxRecDepth 100000 in
theorem open_req {fuel : Nat} {c0 c1 c2 : Value} {x : DataW H × List MemPlace} (h : DataW.trod enc Try.prog w base spare held fuel 39 [c0, c1, c2] = some x) (hw : Wt Try.prog 39 x.1) :
    ∃ cl sq A n c ops, ReqIn w c0 c1 c2 cl sq A n c ops := by
  obtain ⟨ys, n', hn', hy, hlen, hyl, hf⟩ := DataW.trod_struct Try.underlying39 h
  have hyl3 : ys.length = 3 := hyl
  have s0 : ys[0]? = some (ys[0]'(by omega)) := List.getElem?_eq_getElem (by omega)
  have s1 : ys[1]? = some (ys[1]'(by omega)) := List.getElem?_eq_getElem (by omega)
  have s2 : ys[2]? = some (ys[2]'(by omega)) := List.getElem?_eq_getElem (by omega)
  have t0 : DataW.trod enc Try.prog w base spare held n' 3 [c0] = some (ys[0]'(by omega)) := (hf 0 _ rfl).trans s0
  have t1 : DataW.trod enc Try.prog w base spare held n' 3 [c1] = some (ys[1]'(by omega)) := (hf 1 _ rfl).trans s1
  have t2 : DataW.trod enc Try.prog w base spare held n' 37 [c2] = some (ys[2]'(by omega)) := (hf 2 _ rfl).trans s2
  have hD : x.1 = .agg (ys.map (·.1)) := congrArg Prod.fst hy
  rw [hD] at hw
  have w2 : Wt Try.prog 37 (ys[2]'(by omega)).1 := hw.part Try.underlying39 (j := 2) rfl (by rw [List.getElem?_map, s2]; rfl)
  obtain ⟨z0, e0, _, _⟩ := DataW.trod_int (k := .i64) (by kernel_rfl) t0
  obtain ⟨z1, e1, _, _⟩ := DataW.trod_int (k := .i64) (by kernel_rfl) t1
  obtain ⟨A2, n2, c2', ops, e2, hrd, hfit⟩ := open_ops t2
  injection e0 with e0 _; injection e1 with e1 _; injection e2 with e2 _
  subst e0 e1 e2
  have hb := open_len Try.underlying37 t2 w2
  rw [show Try.prog.bytesOf 64 = 64 by kernel_rfl] at hb
  unfold reachBytes at hb
  exact ⟨z0, z1, A2, n2, c2', ops, rfl, rfl, rfl, hrd, hfit, hb⟩
/-- A reply's fields, out of its five cells. -/
structure RepIn (w : World) (c0 c1 c2 c3 c4 : Value) (cl sq : Int) (A : Option Addr) (n c : Nat) (a b : Int) (rr : List RRes) (rs : List Res) : Prop where
  e0 : c0 = .int .i64 cl
  e1 : c1 = .int .i64 sq
  e2 : c2 = .slice A n c
  e3 : c3 = .int .i64 a
  e4 : c4 = .int .i64 b
  rd : Rd w.heap.size 47 w 4 A n c (resCells rr)
  ins : All2 (RIn w.heap.size w) rr rs
  big : n * 56 ≤ 140737488351232
set_option maxRecDepth 100000 in
theorem open_rep {fuel : Nat} {c0 c1 c2 c3 c4 : Value} {x : DataW H × List MemPlace} (h : DataW.trod enc Try.prog w base spare held fuel 42 [c0, c1, c2, c3, c4] = some x) (hw : Wt Try.prog 42 x.1) :
    ∃ cl sq A n c a b rr rs, RepIn w c0 c1 c2 c3 c4 cl sq A n c a b rr rs := by
  obtain ⟨ys, n', hn', hy, hlen, hyl, hf⟩ := DataW.trod_struct Try.underlying42 h
  have hyl4 : ys.length = 4 := hyl
  have s0 : ys[0]? = some (ys[0]'(by omega)) := List.getElem?_eq_getElem (by omega)
  have s1 : ys[1]? = some (ys[1]'(by omega)) := List.getElem?_eq_getElem (by omega)
  have s2 : ys[2]? = some (ys[2]'(by omega)) := List.getElem?_eq_getElem (by omega)
  have s3 : ys[3]? = some (ys[3]'(by omega)) := List.getElem?_eq_getElem (by omega)
  have t0 : DataW.trod enc Try.prog w base spare held n' 3 [c0] = some (ys[0]'(by omega)) := (hf 0 _ rfl).trans s0
  have t1 : DataW.trod enc Try.prog w base spare held n' 3 [c1] = some (ys[1]'(by omega)) := (hf 1 _ rfl).trans s1
  have t2 : DataW.trod enc Try.prog w base spare held n' 40 [c2] = some (ys[2]'(by omega)) := (hf 2 _ rfl).trans s2
  have t3 : DataW.trod enc Try.prog w base spare held n' 35 [c3, c4] = some (ys[3]'(by omega)) := (hf 3 _ rfl).trans s3
  have hD : x.1 = .agg (ys.map (·.1)) := congrArg Prod.fst hy
  rw [hD] at hw
  have w2 : Wt Try.prog 40 (ys[2]'(by omega)).1 := hw.part Try.underlying42 (j := 2) rfl (by rw [List.getElem?_map, s2]; rfl)
  obtain ⟨z0, e0, _, _⟩ := DataW.trod_int (k := .i64) (by kernel_rfl) t0
  obtain ⟨z1, e1, _, _⟩ := DataW.trod_int (k := .i64) (by kernel_rfl) t1
  obtain ⟨A2, n2, c2', rr, rs, e2, hrd, hins⟩ := open_results t2 w2
  have F := fields_of Try.underlying35 (by kernel_rfl) (show ([c3, c4] : List Value).length = _ from rfl) t3
  obtain ⟨u0, _, _, k0, q0⟩ := F 0 _ rfl
  obtain ⟨u1, _, _, k1, q1⟩ := F 1 _ rfl
  injection k0 with k0; injection k1 with k1
  subst k0 k1
  obtain ⟨g0, e4, _, _⟩ := DataW.trod_int (k := .i64) (by kernel_rfl) q0
  obtain ⟨g1, e5, _, _⟩ := DataW.trod_int (k := .i64) (by kernel_rfl) q1
  injection e0 with e0 _; injection e1 with e1 _; injection e2 with e2 _; injection e4 with e4 _; injection e5 with e5 _
  subst e0 e1 e2 e4 e5
  have hb := open_len Try.underlying40 t2 w2
  rw [show Try.prog.bytesOf 47 = 56 by kernel_rfl] at hb
  unfold reachBytes at hb
  exact ⟨z0, z1, A2, n2, c2', g0, g1, rr, rs, rfl, rfl, rfl, rfl, rfl, hrd, hins, hb⟩
set_option maxRecDepth 100000 in
theorem open_calls {fuel : Nat} {cs : List Value} {x : DataW H × List MemPlace} (h : DataW.trod enc Try.prog w base spare held fuel 22 cs = some x) (hw : Wt Try.prog 22 x.1) :
    ∃ A n c, ∃ hs : List CallR, cs = [.slice A n c] ∧ Hist w.heap.size w A n c hs ∧ n * 112 ≤ 140737488351232 := by
  have hlen : ∀ A n c, cs = [.slice A n c] → n * 112 ≤ 140737488351232 := by
    rintro A n c rfl
    have hb := open_len Try.underlying22 h hw
    rw [show Try.prog.bytesOf 44 = 112 by kernel_rfl] at hb
    unfold reachBytes at hb
    exact hb
  rcases open_slice Try.underlying22 h with ⟨rfl, _⟩ | ⟨a, len, cap, m, n, D, Pl, rfl, hb, hl, hm, hmm, hx, hi⟩
  · exact ⟨none, 0, 0, [], rfl, ⟨Rd.none_, fun a ha => (by cases ha), by omega⟩, by omega⟩
  · have hC : Try.prog.cellsOf 44 = 10 := by kernel_rfl
    rw [hC] at hi
    have hall : ∀ i, i < len → ∃ y : CallR, (∀ j v, y.enc[j]? = some v → w.cell? (a.add (i * 10 + j)) = some v) ∧ CallIn w.heap.size w y := by
      intro i hil
      have him : i < m := by rw [hmm]; split <;> omega
      obtain ⟨cs', hc, ht'⟩ := hi i him
      obtain ⟨_, hcl, hat⟩ := World.cells?_some hc
      have hwD : Wt Try.prog 44 (D i) := by
        rw [hx] at hw
        exact hw.elem Try.underlying22 (List.mem_map_of_mem (List.mem_range.2 hil))
      obtain ⟨ys, n', hn', hy, hlen, hyl, hf⟩ := DataW.trod_struct Try.underlying44 ht'
      have hyl4 : ys.length = 4 := hyl
      match cs', hcl with
      | [c0, c1, c2, c3, c4, c5, c6, c7, c8, c9], _ =>
        have s0 : ys[0]? = some (ys[0]'(by omega)) := List.getElem?_eq_getElem (by omega)
        have s1 : ys[1]? = some (ys[1]'(by omega)) := List.getElem?_eq_getElem (by omega)
        have s2 : ys[2]? = some (ys[2]'(by omega)) := List.getElem?_eq_getElem (by omega)
        have s3 : ys[3]? = some (ys[3]'(by omega)) := List.getElem?_eq_getElem (by omega)
        have t0 : DataW.trod enc Try.prog w base spare held n' 3 [c0] = some (ys[0]'(by omega)) := (hf 0 _ rfl).trans s0
        have t1 : DataW.trod enc Try.prog w base spare held n' 3 [c1] = some (ys[1]'(by omega)) := (hf 1 _ rfl).trans s1
        have t2 : DataW.trod enc Try.prog w base spare held n' 39 [c2, c3, c4] = some (ys[2]'(by omega)) := (hf 2 _ rfl).trans s2
        have t3 : DataW.trod enc Try.prog w base spare held n' 42 [c5, c6, c7, c8, c9] = some (ys[3]'(by omega)) := (hf 3 _ rfl).trans s3
        have hD : D i = .agg (ys.map (·.1)) := congrArg Prod.fst hy
        rw [hD] at hwD
        have w2 : Wt Try.prog 39 (ys[2]'(by omega)).1 := hwD.part Try.underlying44 (j := 2) rfl (by rw [List.getElem?_map, s2]; rfl)
        have w3 : Wt Try.prog 42 (ys[3]'(by omega)).1 := hwD.part Try.underlying44 (j := 3) rfl (by rw [List.getElem?_map, s3]; rfl)
        obtain ⟨z0, e0, _, _⟩ := DataW.trod_int (k := .i64) (by kernel_rfl) t0
        obtain ⟨z1, e1, _, _⟩ := DataW.trod_int (k := .i64) (by kernel_rfl) t1
        obtain ⟨cl, sq, oA, on, oc, ops, rq⟩ := open_req t2 w2
        obtain ⟨pc, ps, rA, rn, rc, at_, code, rr, rs, rp⟩ := open_rep t3 w3
        injection e0 with e0 _; injection e1 with e1 _
        subst e0 e1
        obtain rfl := rq.e0
        obtain rfl := rq.e1
        obtain rfl := rq.e2
        obtain rfl := rp.e0
        obtain rfl := rp.e1
        obtain rfl := rp.e2
        obtain rfl := rp.e3
        obtain rfl := rp.e4
        refine ⟨⟨z0, z1, cl, sq, oA, on, oc, pc, ps, rA, rn, rc, at_, code, ops, rs, rr⟩, fun j v hj => ?_, ⟨rq.rd, fun x hx => rq.fits x hx, by have := rq.big; simp only; omega, rp.rd, rp.ins, by have := rp.big; simp only; omega⟩⟩
        have hjl : j < 10 := (List.getElem?_eq_some_iff.1 hj).1
        have := hat j hjl
        rw [Go.Deep.add_add] at this
        rw [this]
        exact hj
    obtain ⟨hs, hlen2, hp⟩ := list_choice (fun i (y : CallR) => (∀ j v, y.enc[j]? = some v → w.cell? (a.add (i * 10 + j)) = some v) ∧ CallIn w.heap.size w y) len hall
    have hn112 := hlen _ _ _ rfl
    refine ⟨some a, len, cap, hs, rfl, ⟨Rd.mk_enc (k := 10) (fun _ => rfl) (by omega) hlen2 hl (fun i hi => (hp i hi).1), fun y hy => ?_, by omega⟩, hn112⟩
    obtain ⟨i, hi, rfl⟩ := List.getElem_of_mem hy
    exact (hp i hi).2
set_option maxRecDepth 100000 in
theorem open_ints {fuel : Nat} {cs : List Value} {x : DataW H × List MemPlace} (h : DataW.trod enc Try.prog w base spare held fuel 24 cs = some x) (hw : Wt Try.prog 24 x.1) :
    ∃ A n c, ∃ os : List Int, cs = [.slice A n c] ∧ Ints w.heap.size w A n c os ∧ n * 8 ≤ 140737488351232 := by
  have hlen : ∀ A n c, cs = [.slice A n c] → n * 8 ≤ 140737488351232 := by
    rintro A n c rfl
    have hb := open_len Try.underlying24 h hw
    rw [show Try.prog.bytesOf 3 = 8 by kernel_rfl] at hb
    unfold reachBytes at hb
    exact hb
  rcases open_slice Try.underlying24 h with ⟨rfl, _⟩ | ⟨a, len, cap, m, n, D, Pl, rfl, hb, hl, hm, hmm, hx, hi⟩
  · exact ⟨none, 0, 0, [], rfl, ⟨Rd.none_, by omega⟩, by omega⟩
  · have hC : Try.prog.cellsOf 3 = 1 := by kernel_rfl
    rw [hC] at hi
    have hall : ∀ i, i < len → ∃ y : Int, ∀ j v, (intEnc y)[j]? = some v → w.cell? (a.add (i * 1 + j)) = some v := by
      intro i hil
      have him : i < m := by rw [hmm]; split <;> omega
      obtain ⟨cs', hc, ht'⟩ := hi i him
      obtain ⟨_, hcl, hat⟩ := World.cells?_some hc
      match cs', hcl with
      | [c0], _ =>
        obtain ⟨z0, e0, _, _⟩ := DataW.trod_int (k := .i64) (by kernel_rfl) ht'
        injection e0 with e0 _
        subst e0
        refine ⟨z0, fun j v hj => ?_⟩
        have hjl : j < 1 := (List.getElem?_eq_some_iff.1 hj).1
        have := hat j hjl
        rw [Go.Deep.add_add] at this
        rw [this]
        exact hj
    obtain ⟨os, hlen2, hp⟩ := list_choice (fun i (y : Int) => ∀ j v, (intEnc y)[j]? = some v → w.cell? (a.add (i * 1 + j)) = some v) len hall
    have hn8 := hlen _ _ _ rfl
    exact ⟨some a, len, cap, os, rfl, ⟨Rd.mk_enc (k := 1) (fun _ => rfl) (by omega) hlen2 hl (fun i hi => hp i hi), by omega⟩, hn8⟩
end
end Go.Proofs.Ytlhjfblpinpjiaa

/- Arguments opened where their bulk is bounded: rows, whose texts are then small. -/
import Derived.Test.YtgiajfgeplekbaaRows
import Derived.Test.YtgiajfgeplekbaaAd
set_option linter.unusedVariables false
set_option linter.unusedSimpArgs false
namespace Go.Proofs.Ytgiajfgeplekbaa
open Go.RowKit Go.ChangeShapes Go.WideShapes Go.ChangeAt Go.Deep

theorem bulk_part {H : Type} {d : DataW H} : ∀ {l : List (DataW H)}, d ∈ l → Rows.uptoBulk d ≤ Rows.uptoBulkAll l
  | [], h => by cases h
  | x :: r, h => by
    unfold Rows.uptoBulkAll
    rcases List.mem_cons.1 h with e | e
    · subst e; omega
    · have := bulk_part e; omega
theorem bulk_slice {H : Type} (elems rest : List (DataW H)) : Rows.uptoBulkAll elems ≤ Rows.uptoBulk (.slice elems rest) := by
  unfold Rows.uptoBulk
  omega
theorem bulk_agg {H : Type} (parts : List (DataW H)) : Rows.uptoBulkAll parts ≤ Rows.uptoBulk (.agg parts) := by
  unfold Rows.uptoBulk
  omega
theorem bulk_text {H : Type} (s : List UInt8) : s.length ≤ Rows.uptoBulk (DataW.lit (H := H) (.string s)) := by
  unfold Rows.uptoBulk
  omega

section
variable {H : Type} {enc : TypeId × Value → H} {P : Program} {w : World} {base : Nat} {spare : Nat → Bool} {held : Bool}
theorem open_slice_bulk {t e : TypeId} {fs : Array Field} {fuel : Nat} {cs : List Value} {x : DataW H × List MemPlace} (ht : P.underlying t = some (.slice e)) (he : P.underlying e = some (.struct fs))
    (hone : oneCellFields P fs = true) (hC : P.cellsOf e = fs.size) (h : DataW.trod enc P w base spare held fuel t cs = some x) :
    cs = [.slice none 0 0] ∨
    ∃ (a : Addr) (len cap : Nat), cs = [.slice (some a) len cap] ∧ len ≤ cap ∧
      ∀ i, i < len → ∀ (j : Nat) (f : Field), fs[j]? = some f → ∃ (v : Value) (n : Nat) (y : DataW H × List MemPlace), w.cell? (a.add (i * fs.size + j)) = some v ∧ DataW.trod enc P w base spare held n f.type [v] = some y ∧ Rows.uptoBulk y.1 ≤ Rows.uptoBulk x.1 := by
  rcases open_slice ht h with h0 | ⟨a, len, cap, m, n, D, Pl, hcs, hb, hl, hm, hmm, hx, hi⟩
  · exact .inl h0.1
  · refine .inr ⟨a, len, cap, hcs, hl, fun i him j f hj => ?_⟩
    have him' : i < m := by rw [hmm]; split <;> omega
    obtain ⟨cs', hc, ht'⟩ := hi i him'
    rw [hC] at hc
    obtain ⟨ys, n', hn', hy, hlen, hyl, hf⟩ := DataW.trod_struct he ht'
    obtain ⟨_, hcl, hat⟩ := World.cells?_some hc
    obtain ⟨ho, hk⟩ := hone_of hone j f hj
    have hjl : j < fs.size := (Array.getElem?_eq_some_iff.1 hj).1
    have hcell := hat j hjl
    have hv : cs'[j]? = some (cs'[j]'(by omega)) := List.getElem?_eq_getElem (by omega)
    have h1 := hf j f hj
    rw [ho, hk] at h1
    have hone' : (cs'.drop j).take 1 = [cs'[j]'(by omega)] := by
      rw [List.drop_eq_getElem_cons (by omega)]
      rfl
    rw [hone'] at h1
    have hys : ys[j]? = some (ys[j]'(by omega)) := List.getElem?_eq_getElem (by omega)
    refine ⟨_, _, _, ?_, h1.trans hys, ?_⟩
    · rw [← Go.Deep.add_add, hcell, hv]
    · have hD : D i = .agg (ys.map (·.1)) := by
        have := congrArg Prod.fst hy
        exact this
      have b1 : Rows.uptoBulk (ys[j]'(by omega)).1 ≤ Rows.uptoBulkAll (ys.map (·.1)) := bulk_part (List.mem_map_of_mem (List.getElem_mem _))
      have b2 := bulk_agg (ys.map (·.1))
      rw [← hD] at b2
      have b3 : Rows.uptoBulk (D i) ≤ Rows.uptoBulkAll ((List.range len).map D) := bulk_part (List.mem_map_of_mem (List.mem_range.2 him))
      have b4 := bulk_slice ((List.range len).map D) ((List.range (m - len)).map fun j => D (len + j))
      rw [hx]
      exact Nat.le_trans b1 (Nat.le_trans b2 (Nat.le_trans b3 b4))
end
section
variable {H : Type} {enc : TypeId × Value → H} {w : World} {base : Nat} {spare : Nat → Bool} {held : Bool}
theorem open_rows_bulk {fuel : Nat} {cs : List Value} {x : DataW H × List MemPlace} (h : DataW.trod enc Try.prog w base spare held fuel 22 cs = some x) :
    ∃ A n c, ∃ rows : List Rw, cs = [.slice A n c] ∧ Rd w.heap.size 29 w 3 A n c (rowCells rows) ∧ ∀ r ∈ rows, r.key.size ≤ Rows.uptoBulk x.1 ∧ r.val.size ≤ Rows.uptoBulk x.1 := by
  rcases open_slice_bulk Try.underlying22 Try.underlying29 (by kernel_rfl) (by kernel_rfl) h with rfl | ⟨a, len, cap, rfl, hl, hf⟩
  · exact ⟨none, 0, 0, [], rfl, Rd.none_, fun r hr => by cases hr⟩
  · have hall : ∀ i, i < len → ∃ y : Rw, (∀ j v, y.enc[j]? = some v → w.cell? (a.add (i * 3 + j)) = some v) ∧ y.key.size ≤ Rows.uptoBulk x.1 ∧ y.val.size ≤ Rows.uptoBulk x.1 := by
      intro i hi
      obtain ⟨v0, n0, y0, k0, t0, b0⟩ := hf i hi 0 _ rfl
      obtain ⟨v1, n1, y1, k1, t1, b1⟩ := hf i hi 1 _ rfl
      obtain ⟨v2, n2, y2, k2, t2, b2⟩ := hf i hi 2 _ rfl
      obtain ⟨z0, e0, d0, _⟩ := DataW.trod_string (by kernel_rfl) t0
      obtain ⟨z1, e1, _, _⟩ := DataW.trod_int (k := .i64) (by kernel_rfl) t1
      obtain ⟨z2, e2, d2, _⟩ := DataW.trod_string (by kernel_rfl) t2
      injection e0 with e0 _; injection e1 with e1 _; injection e2 with e2 _
      subst e0 e1 e2 d0 d2
      have s0 := bulk_text (H := H) z0.data.toList
      have s2 := bulk_text (H := H) z2.data.toList
      rw [Array.length_toList] at s0 s2
      refine ⟨⟨z0, z1, z2⟩, fun j v hj => ?_, Nat.le_trans s0 b0, Nat.le_trans s2 b2⟩
      match j, hj with
      | 0, hj => injection hj with hj; subst hj; exact k0
      | 1, hj => injection hj with hj; subst hj; exact k1
      | 2, hj => injection hj with hj; subst hj; exact k2
      | j + 3, hj => simp [Rw.enc] at hj
    obtain ⟨rows, hlen, hp⟩ := list_choice (fun i (y : Rw) => (∀ j v, y.enc[j]? = some v → w.cell? (a.add (i * 3 + j)) = some v) ∧ y.key.size ≤ Rows.uptoBulk x.1 ∧ y.val.size ≤ Rows.uptoBulk x.1) len hall
    refine ⟨some a, len, cap, rows, rfl, Rd.mk_enc (k := 3) (fun _ => rfl) (by omega) hlen hl (fun i hi => (hp i hi).1), fun r hr => ?_⟩
    obtain ⟨i, hi, rfl⟩ := List.getElem_of_mem hr
    exact (hp i hi).2
end
end Go.Proofs.Ytgiajfgeplekbaa

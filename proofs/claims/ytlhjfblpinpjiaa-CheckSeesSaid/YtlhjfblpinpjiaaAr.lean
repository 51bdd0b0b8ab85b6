/- Arguments opened: operations, lists of them. -/
import Derived.Test.YtlhjfblpinpjiaaProg
import Derived.Test.YtlhjfblpinpjiaaTb3
import Derived.Test.YtlhjfblpinpjiaaWd
import Derived.ProofKit
import Derived.OpenShut
import Derived.Deep.Slices
import Derived.Deep.Fields
import Derived.ChangeSame
set_option linter.unusedVariables false
set_option linter.unusedSimpArgs false
namespace Go.Proofs.Ytlhjfblpinpjiaa
open Go.RowKit Go.ChangeShapes Go.WideShapes Go.ChangeAt Go.Deep

theorem list_choice {α : Type} (P : Nat → α → Prop) : ∀ (n : Nat), (∀ i, i < n → ∃ a, P i a) → ∃ l : List α, l.length = n ∧ ∀ i (hi : i < l.length), P i l[i]
  | 0, _ => ⟨[], rfl, fun i hi => absurd hi (by simp)⟩
  | n + 1, h => by
    obtain ⟨l, hl, hp⟩ := list_choice P n (fun i hi => h i (by omega))
    obtain ⟨a, ha⟩ := h n (by omega)
    refine ⟨l ++ [a], by simp [hl], fun i hi => ?_⟩
    by_cases e : i < l.length
    · rw [List.getElem_append_left e]; exact hp i e
    · have : i = n := by simp at hi; omega
      subst this
      rw [List.getElem_append_right (by omega)]
      simpa [hl] using ha

/-- A slice that came in, by its elements' cells. -/
theorem Rd.mk_enc {α : Type} {enc : α → List Value} {k T : Nat} (hk : ∀ x, (enc x).length = k) (h0 : 0 < k) {w : World} {a : Addr} {n c : Nat} {l : List α} (hl : l.length = n) (hc : n ≤ c) (h : ∀ i (hi : i < l.length), ∀ j v, (enc l[i])[j]? = some v → w.cell? (a.add (i * k + j)) = some v) :
    Rd w.heap.size T w k (some a) n c (l.flatMap enc) := by
  refine ⟨by rw [flat_len enc k hk, hl], hc, fun e => by simp at e, fun hn => ?_⟩
  have hsp : a.spot = none ∧ a.block < w.heap.size := by
    have h1 : (enc l[0])[0]? = some ((enc l[0])[0]'(by rw [hk]; exact h0)) := List.getElem?_eq_getElem _
    have h2 := h 0 (by omega) 0 _ h1
    have h3 : a.add (0 * k + 0) = a := by simp [Addr.add]
    rw [h3] at h2
    refine ⟨?_, World.block_lt_of_cell? w a h2⟩
    unfold World.cell? at h2
    split at h2
    · split at h2
      · cases h2
      · rename_i hs
        simpa using hs
    · cases h2
  obtain ⟨b, off, sp⟩ := a
  obtain ⟨hs, hb⟩ := hsp
  simp only at hs hb
  subst hs
  refine ⟨b, off, rfl, ⟨hb, .inl hb⟩, fun j u hu => ?_⟩
  have hj : j < l.length * k := by
    have := (List.getElem?_eq_some_iff.1 hu).1
    rwa [flat_len enc k hk] at this
  have hi : j / k < l.length := Nat.div_lt_of_lt_mul (by rw [Nat.mul_comm]; exact hj)
  have hjk : j % k < k := Nat.mod_lt _ h0
  have hdm : j / k * k + j % k = j := by rw [Nat.mul_comm]; exact Nat.div_add_mod j k
  have := h (j / k) hi (j % k) u (by rw [← flat_get enc k hk l _ _ hi hjk, hdm]; exact hu)
  rw [hdm, add_lit'] at this
  exact this

section
variable {H : Type} {enc : TypeId × Value → H} {P : Program} {w : World} {base : Nat} {spare : Nat → Bool} {held : Bool}
theorem open_slice_fields {t e : TypeId} {fs : Array Field} {fuel : Nat} {cs : List Value} {x : DataW H × List MemPlace} (ht : P.underlying t = some (.slice e)) (he : P.underlying e = some (.struct fs))
    (hone : oneCellFields P fs = true) (hC : P.cellsOf e = fs.size) (h : DataW.trod enc P w base spare held fuel t cs = some x) :
    cs = [.slice none 0 0] ∨
    ∃ (a : Addr) (len cap : Nat), cs = [.slice (some a) len cap] ∧ len ≤ cap ∧
      ∀ i, i < len → ∀ (j : Nat) (f : Field), fs[j]? = some f → ∃ (v : Value) (n : Nat) (y : DataW H × List MemPlace), w.cell? (a.add (i * fs.size + j)) = some v ∧ DataW.trod enc P w base spare held n f.type [v] = some y := by
  rcases open_slice ht h with h0 | ⟨a, len, cap, m, n, D, Pl, hcs, hb, hl, hm, hmm, hx, hi⟩
  · exact .inl h0.1
  · refine .inr ⟨a, len, cap, hcs, hl, fun i him j f hj => ?_⟩
    have him' : i < m := by rw [hmm]; split <;> omega
    obtain ⟨cs', hc, ht'⟩ := hi i him'
    rw [hC] at hc
    obtain ⟨ys, n', hn', hy, hlen, hyl, hf⟩ := DataW.trod_struct he ht'
    obtain ⟨_, hcl, hat⟩ := World.cells?_some hc
    obtain ⟨ho, hk⟩ := hone_of hone j f hj
    have hjl : j < fs.size := (Array.getElem?_eq_some_iff.1 hj).1
    have hcell := hat j hjl
    have hv : cs'[j]? = some (cs'[j]'(by omega)) := List.getElem?_eq_getElem (by omega)
    have h1 := hf j f hj
    rw [ho, hk] at h1
    have hone' : (cs'.drop j).take 1 = [cs'[j]'(by omega)] := by
      rw [List.drop_eq_getElem_cons (by omega)]
      rfl
    rw [hone'] at h1
    have hys : ys[j]? = some (ys[j]'(by omega)) := List.getElem?_eq_getElem (by omega)
    refine ⟨_, _, _, ?_, h1.trans hys⟩
    rw [← Go.Deep.add_add, hcell, hv]
end

section
variable {H : Type} {enc : TypeId × Value → H} {w : World} {base : Nat} {spare : Nat → Bool} {held : Bool}
def FitsR (x : OpR) : Prop := x.key.size ≤ 9223372036854775807 ∧ x.val.size ≤ 9223372036854775807
theorem open_ops {fuel : Nat} {cs : List Value} {x : DataW H × List MemPlace} (h : DataW.trod enc Try.prog w base spare held fuel 37 cs = some x) :
    ∃ A n c, ∃ ops : List OpR, cs = [.slice A n c] ∧ Rd w.heap.size 64 w 6 A n c (ops.flatMap OpR.enc) ∧ ∀ x ∈ ops, FitsR x := by
  rcases open_slice_fields Try.underlying37 Try.underlying64 (by kernel_rfl) (by kernel_rfl) h with rfl | ⟨a, len, cap, rfl, hl, hf⟩
  · exact ⟨none, 0, 0, [], rfl, Rd.none_, fun x hx => by cases hx⟩
  · have hall : ∀ i, i < len → ∃ x : OpR, FitsR x ∧ ∀ j v, x.enc[j]? = some v → w.cell? (a.add (i * 6 + j)) = some v := by
      intro i hi
      obtain ⟨v0, n0, y0, k0, t0⟩ := hf i hi 0 _ rfl
      obtain ⟨v1, n1, y1, k1, t1⟩ := hf i hi 1 _ rfl
      obtain ⟨v2, n2, y2, k2, t2⟩ := hf i hi 2 _ rfl
      obtain ⟨v3, n3, y3, k3, t3⟩ := hf i hi 3 _ rfl
      obtain ⟨v4, n4, y4, k4, t4⟩ := hf i hi 4 _ rfl
      obtain ⟨v5, n5, y5, k5, t5⟩ := hf i hi 5 _ rfl
      obtain ⟨z0, e0, _, _⟩ := DataW.trod_int (k := .i64) (by kernel_rfl) t0
      obtain ⟨z1, e1, _, f1⟩ := DataW.trod_string (by kernel_rfl) t1
      obtain ⟨z2, e2, _, f2⟩ := DataW.trod_string (by kernel_rfl) t2
      obtain ⟨z3, e3, _, _⟩ := DataW.trod_int (k := .i64) (by kernel_rfl) t3
      obtain ⟨z4, e4, _, _⟩ := DataW.trod_int (k := .i64) (by kernel_rfl) t4
      obtain ⟨z5, e5, _, _⟩ := DataW.trod_int (k := .i64) (by kernel_rfl) t5
      injection e0 with e0 _; injection e1 with e1 _; injection e2 with e2 _; injection e3 with e3 _; injection e4 with e4 _; injection e5 with e5 _
      subst e0 e1 e2 e3 e4 e5
      refine ⟨⟨z0, z1, z2, z3, z4, z5⟩, ⟨by unfold maxLen at f1; omega, by unfold maxLen at f2; omega⟩, fun j v hj => ?_⟩
      match j, hj with
      | 0, hj => injection hj with hj; subst hj; exact k0
      | 1, hj => injection hj with hj; subst hj; exact k1
      | 2, hj => injection hj with hj; subst hj; exact k2
      | 3, hj => injection hj with hj; subst hj; exact k3
      | 4, hj => injection hj with hj; subst hj; exact k4
      | 5, hj => injection hj with hj; subst hj; exact k5
      | j + 6, hj => simp [OpR.enc] at hj
    obtain ⟨ops, hlen, hp⟩ := list_choice (fun i (x : OpR) => FitsR x ∧ ∀ j v, x.enc[j]? = some v → w.cell? (a.add (i * 6 + j)) = some v) len hall
    refine ⟨some a, len, cap, ops, rfl, Rd.mk_enc (k := 6) (fun _ => rfl) (by omega) hlen hl (fun i hi => (hp i hi).2), fun x hx => ?_⟩
    obtain ⟨i, hi, rfl⟩ := List.getElem_of_mem hx
    exact (hp i hi).1
end
end Go.Proofs.Ytlhjfblpinpjiaa

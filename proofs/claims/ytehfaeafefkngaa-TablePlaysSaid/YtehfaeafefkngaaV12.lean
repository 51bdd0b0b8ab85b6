/- The book: operations lent and kept; rows and results spoilt. The book: rows and results spoilt. -/
import Derived.Test.YtehfaeafefkngaaV10
import Derived.Test.YtehfaeafefkngaaTl5
set_option linter.unusedVariables false
set_option linter.unusedSimpArgs false
namespace Go.Proofs.Ytehfaeafefkngaa
open Go.RowKit

theorem eltO : Elt Try.prog 22 28 6 64 := Elt.mk' Try.underlying22 (z := .agg #[.int .i64 0, .string ⟨#[]⟩, .string ⟨#[]⟩, .int .i64 0, .int .i64 0, .int .i64 0]) (by kernel_rfl) rfl (by omega)
theorem opc_one (l : List OpR) : ∀ u ∈ opCells l, u.oneCell' = true := by
  intro u hu
  unfold opCells at hu
  obtain ⟨r, _, hr⟩ := List.mem_flatMap.1 hu
  simp only [OpR.enc, List.mem_cons, List.not_mem_nil, or_false] at hr
  rcases hr with rfl | rfl | rfl | rfl | rfl | rfl <;> rfl

set_option maxHeartbeats 2000000 in
theorem SameOps_yes {base : Nat} {w : World} {A B : Option Addr} {n c m d : Nat} {l : List OpR} (ha : Rd base 28 w 6 A n c (opCells l)) (hb : Rd base 28 w 6 B m d (opCells l)) (hbig : n ≤ 140737488355328) :
    Calls Try.prog 61 #[.slice A n c, .slice B m d] w fun e w' => e = .returned (.bool true) ∧ ∃ q, w' = w.drewN q := by
  have hl := ha.count (enc := OpR.enc) (fun _ => rfl) (by omega)
  have hr := hb.count (enc := OpR.enc) (fun _ => rfl) (by omega)
  obtain rfl : m = n := by omega
  have RA := Asd.mk ha
  have RB := Asd.mk hb
  clear ha hb hl hr
  go_enter Try.func61, Try.ntmps61
  go_wp2
  go_loopw [5] (fun s5 wr => ∃ k : Nat, s5 = .int .i64 k ∧ k ≤ m ∧ Asd (∃ q, wr = w.drewN q)) (fun s5 _ => m - (intOf s5).toNat)
  case atStart => exact ⟨0, rfl, Nat.zero_le _, ⟨0, rfl⟩⟩
  case round =>
    obtain ⟨k, rfl, hkn, ⟨q0, hq0⟩⟩ := hrel
    have BW := Asd.mk (show Below w.heap.size w wr by rw [hq0]; exact below_dn _ _)
    have QW := Asd.mk hq0
    clear hq0
    by_cases hlt : k < m
    · obtain ⟨b, off, rfl, hb, hil, hcs⟩ := (RA.out.below BW.out).at_enc (enc := OpR.enc) (fun _ => rfl) (by omega) hlt
      obtain ⟨b', off', rfl, hb', hil', hds⟩ := (RB.out.below BW.out).at_enc (enc := OpR.enc) (fun _ => rfl) (by omega) hlt
      have hcc : k < c := Nat.lt_of_lt_of_le hlt RA.out.cap
      have hcd : k < d := Nat.lt_of_lt_of_le hlt RB.out.cap
      generalize l[k] = x at hcs hds
      have c0 := hcs 0 _ rfl
      have c1 := hcs 1 _ rfl
      have c2 := hcs 2 _ rfl
      have c3 := hcs 3 _ rfl
      have c4 := hcs 4 _ rfl
      have c5 := hcs 5 _ rfl
      have d0 := hds 0 _ rfl
      have d1 := hds 1 _ rfl
      have d2 := hds 2 _ rfl
      have d3 := hds 3 _ rfl
      have d4 := hds 4 _ rfl
      have d5 := hds 5 _ rfl
      rw [Nat.add_zero] at c0 d0
      clear hcs hds
      go_wp2_with fail
      go_quiet (fail)
      go_wp2_with fail
      go_roundw
      case measure => simp [intOf]; omega
      case rel => exact ⟨k + 1, by go_num, by omega, ⟨_, by rw [QW.out, World.drewN_drewN]⟩⟩
    · obtain rfl : k = m := by omega
      go_wp2_with fail
      go_ret
      exact ⟨rfl, _, QW.out⟩

def markO : OpR := ⟨-77, ⟨#[]⟩, ⟨#[]⟩, 0, 0, 0⟩
def LendPost (base : Nat) (w : World) (n : Nat) (l : List OpR) (e : Ending) (w' : World) : Prop :=
  ∃ (P : Option Addr) (cp : Nat), e = .returned (.slice P n cp) ∧ Below w.heap.size w w' ∧ Rd base 28 w' 6 P (n + 1) cp (opCells (l ++ [markO]))
theorem opCells_snoc (l : List OpR) (s : OpR) : opCells l ++ opCells [s] = opCells (l ++ [s]) := by simp [opCells]

set_option maxHeartbeats 2000000 in
theorem LendOps_calls {base : Nat} {w : World} {A : Option Addr} {n c : Nat} {l : List OpR} (hr : Rd base 28 w 6 A n c (opCells l)) (hbig : n * 64 ≤ 140737488351232) (hbs : base ≤ w.heap.size) :
    Calls Try.prog 44 #[.slice A n c] w (LendPost base w n l) := by
  have R := Asd.mk hr
  have N := Asd.mk (hr.count (enc := OpR.enc) (fun _ => rfl) (by omega))
  have BS := Asd.mk hbs
  clear hr hbs
  go_enter Try.func44, Try.ntmps44
  go_wp2_with (first
    | (at_builtin; (refine wpList_append_mine (base := base) (own := w.heap.size) (n := 0) (m := n) (v := .slice (some ⟨w.heap.size, 0, none⟩) 0 0) (xs := []) (ys := opCells l) rfl (.tmp 4) (.tmp 5) 22 rfl eltO rfl rfl (World.ownsRow_made w #[] 0 (Nat.le_refl _) (by simp [maxLen]) (by simp)) (R.out.alloc _) (opc_one _) (by unfold maxLen; omega) (by omega) (by simp) ?_; intro v1 w1 O1' G1'; rw [Nat.zero_add, List.nil_append] at O1'; obtain ⟨A1, c1, rfl, _⟩ := Rd.of_own (base := base) O1'; have O1 := Asd.mk O1'; have B1 := Asd.mk ((((Below.refl w.heap.size w).alloc (Nat.le_refl _) (.cells #[] 28))).grown G1' (by simp) (fun i hi => by simp [Value.ownBlock] at hi; subst hi; exact Nat.le_refl _)); clear O1' G1'))
    | (at_builtin; (refine wpList_append_mine (base := base) (own := w.heap.size) (n := n) (m := 1) (v := .slice A1 n c1) (xs := opCells l) (ys := opCells [markO]) rfl (.tmp 7) (.tmp 9) 22 rfl eltO rfl rfl (O1.out.alloc _) (Rd.new_ rfl rfl) (opc_one _) (by unfold maxLen; omega) (by omega) (by have := B1.out.size; simp; omega) ?_; intro v2 w2 O2' G2'; obtain ⟨A2, c2, rfl, r2⟩ := Rd.of_own (base := base) O2'; have R2 := Asd.mk r2; have B2 := Asd.mk ((B1.out.alloc B1.out.size (.cells #[.int .i64 (-77), .string ⟨#[]⟩, .string ⟨#[]⟩, .int .i64 0, .int .i64 0, .int .i64 0] 28)).grown G2' (by have := B1.out.size; simp; omega) (fun i hi => (O1.out.lt i hi).1)); have hc2 : n + 1 ≤ c2 := r2.cap; have hn2 : n ≤ c2 := (by omega); clear O2' G2' r2)))
  go_ret
  refine ⟨A2, c2, by simp, B2.out, ?_⟩
  have h := R2.out
  rw [opCells_snoc] at h
  exact h
theorem lent_ops {base : Nat} {w : World} {P : Option Addr} {n cp : Nat} {l : List OpR} (h : Rd base 28 w 6 P (n + 1) cp (opCells (l ++ [markO]))) : l.length = n ∧ Rd base 28 w 6 P n cp (opCells l) := by
  have h1 := h.count (enc := OpR.enc) (fun _ => rfl) (by omega)
  have hl : l.length = n := by rw [List.length_append] at h1; simp at h1; exact h1
  refine ⟨hl, ?_⟩
  have h2 := h.prefix_ (hi := n) (c' := cp) (by omega) (by have := h.cap; omega) (Nat.le_refl _) h.nil
  have h3 : (opCells (l ++ [markO])).take (n * 6) = opCells l := by
    rw [← opCells_snoc, List.take_append_of_le_length]
    · rw [List.take_of_length_le]
      unfold opCells
      rw [flat_len OpR.enc 6 (fun _ => rfl), hl]
      exact Nat.le_refl _
    · unfold opCells
      rw [flat_len OpR.enc 6 (fun _ => rfl), hl]
      exact Nat.le_refl _
  rw [h3] at h2
  exact h2
set_option maxHeartbeats 2000000 in
theorem KeptOps_calls {base : Nat} {w : World} {P A : Option Addr} {n cp c : Nat} {l : List OpR} (hx : Rd base 28 w 6 P (n + 1) cp (opCells (l ++ [markO]))) (ha : Rd base 28 w 6 A n c (opCells l)) (hbig : n * 64 ≤ 140737488351232) :
    Calls Try.prog 46 #[.slice P n cp, .slice A n c] w fun e w' => e = .returned (.bool true) ∧ ∃ q, w' = w.drewN q := by
  obtain ⟨hl, hp⟩ := lent_ops hx
  have HS := Asd.mk (SameOps_yes hp ha (by omega))
  have hcap := hx.cap
  have hcap2 : n ≤ cp := by omega
  obtain ⟨b, off, rfl, hb, hil, hcs⟩ := hx.at_enc (enc := OpR.enc) (fun _ => rfl) (by omega) (show n < n + 1 by omega)
  have c0 : w.cell? ⟨b, off + n * 6, none⟩ = some (.int .i64 (-77)) := by
    have hg : (l ++ [markO])[n] = markO := by
      rw [List.getElem_append_right (by omega)]
      simp
    exact (hcs 0 _ rfl).trans (by rw [hg]; rfl)
  clear hx ha hp hcs
  go_enter Try.func46, Try.ntmps46
  go_wp2_with fail
  refine HS.out.mono ?_
  rintro e w1 ⟨rfl, q, hq⟩
  have Q := Asd.mk hq
  have d0 : w1.cell? ⟨b, off + n * 6, none⟩ = some (.int .i64 (-77)) := by rw [hq]; exact c0
  clear hq
  have hn1 : IntKind.i64.wrap ((n : Int) + 1) = (n : Int) + 1 := IntWalk.i64_in _ (by omega)
  have hn2 : (0 : Int) ≤ (n : Int) + 1 ∧ (n : Int) + 1 ≤ (cp : Int) ∧ ((n : Int) + 1).toNat = n + 1 := by omega
  go_wp2_with fail
  go_ret
  exact ⟨rfl, q, Q.out⟩

/-- A slice that lies whole in a block of its own. -/
def Shp (w : World) (T : TypeId) (k : Nat) (A : Option Addr) (n c : Nat) : Prop :=
  (A = none ∧ n = 0 ∧ c = 0) ∨ ∃ g cs, A = some ⟨g, 0, none⟩ ∧ w.heap[g]? = some (.cells cs T (0, 0)) ∧ cs.size = c * k ∧ n ≤ c ∧ c ≤ 9223372036854775807
theorem Shp.own {w : World} {T b k n c : Nat} {A : Option Addr} {m : Nat} {xs : List Value} (h : w.ownsRow b T k (.slice A n c) m xs) (hm : m = n) : Shp w T k A n c := by
  rcases h.2 with ⟨hv, h0⟩ | ⟨g, cap, cur, hv, hb, hh, h1, h2, h3, h4⟩
  · injection hv with e1 e2 e3
    exact .inl ⟨e1, e2, e3⟩
  · injection hv with e1 e2 e3
    subst e1 e3
    exact .inr ⟨g, cur, rfl, hh, h3, by omega, by unfold maxLen at h2; omega⟩
/-- What is turned when rows are spoilt: the one block, and that keeps its shape. -/
structure SpR (A : Option Addr) (w w' : World) : Prop where
  os : w'.os = w.os
  tape : w'.tape = w.tape
  output : w'.output = w.output
  size : w'.heap.size = w.heap.size
  block : ∀ k : Nat, (∀ a, A = some a → a.block ≠ k) → w'.heap[k]? = w.heap[k]?
  shape : ∀ (k : Nat) (cs : Array Value), w.heap[k]? = some (Obj.cells cs 53 (0, 0)) → ∃ cs' : Array Value, w'.heap[k]? = some (Obj.cells cs' 53 (0, 0)) ∧ cs'.size = cs.size
theorem SpR.refl (A : Option Addr) (w : World) : SpR A w w := ⟨rfl, rfl, rfl, rfl, fun _ _ => rfl, fun _ cs h => ⟨cs, h, rfl⟩⟩
theorem put_cells {w : World} {g : Nat} {cs : Array Value} {T : TypeId} (h : w.heap[g]? = some (.cells cs T (0, 0))) (j : Nat) (u : Value) : (w.setCell ⟨g, j, none⟩ u).heap[g]? = some (.cells (cs.setIfInBounds j u) T (0, 0)) := by
  simp only [World.setCell, Array.getElem?_modify, h, if_true]
  rfl
theorem SpR.set {g : Nat} {w w' : World} (h : SpR (some ⟨g, 0, none⟩) w w') (j : Nat) (u : Value) : SpR (some ⟨g, 0, none⟩) w (w'.setCell ⟨g, j, none⟩ u) := by
  refine ⟨h.os, h.tape, h.output, by simpa [World.setCell] using h.size, fun k hk => ?_, fun k cs hc => ?_⟩
  · exact (Below.heap_setCell w' ⟨g, j, none⟩ u k (fun e => hk _ rfl e.symm)).trans (h.block k hk)
  · obtain ⟨cs', h1, h2⟩ := h.shape k cs hc
    by_cases hk : k = g
    · subst hk
      exact ⟨_, put_cells h1 j u, by rw [Array.size_setIfInBounds]; exact h2⟩
    · exact ⟨cs', (Below.heap_setCell _ _ _ _ hk).trans h1, h2⟩
theorem Shp.spr {w w' : World} {k n c : Nat} {A B : Option Addr} (h : Shp w 53 k A n c) (s : SpR B w w') : Shp w' 53 k A n c := by
  rcases h with h | ⟨g, cs, h1, h2, h3, h4⟩
  · exact .inl h
  · obtain ⟨cs', h5, h6⟩ := s.shape g cs h2
    exact .inr ⟨g, cs', h1, h5, by omega, h4⟩

set_option maxHeartbeats 2000000 in
theorem SpoilR_calls {w : World} {A : Option Addr} {n c : Nat} (h : Shp w 53 3 A n c) :
    Calls Try.prog 49 #[.slice A n c] w fun e w' => e = .returned (.tuple #[]) ∧ SpR A w w' := by
  rcases h with ⟨rfl, rfl, rfl⟩ | ⟨g, cs0, rfl, hh, h3, h1, hbig⟩
  · go_enter Try.func49, Try.ntmps49
    go_wp2_with fail
    go_loopw [2] (fun s2 wr => s2 = .int .i64 0 ∧ Asd (wr = w)) (fun _ _ => 0)
    case atStart => exact ⟨rfl, ⟨rfl⟩⟩
    case round =>
      obtain ⟨rfl, HW⟩ := hrel
      have hw := HW.out
      go_wp2_with fail
      go_end0
      exact ⟨rfl, SpR.refl _ _⟩
  · have CUR : Asd (∃ cs : Array Value, cs.size = c * 3 ∧ w.heap[g]? = some (.cells cs 53 (0, 0))) := ⟨cs0, h3, hh⟩
    clear hh h3
    go_enter Try.func49, Try.ntmps49
    go_wp2_with fail
    go_loopw [2] (fun s2 wr => ∃ i : Nat, s2 = .int .i64 i ∧ i ≤ c ∧ Asd (SpR (some ⟨g, 0, none⟩) w wr) ∧ Asd (∃ cs : Array Value, cs.size = c * 3 ∧ wr.heap[g]? = some (.cells cs 53 (0, 0)))) (fun s2 _ => c - (intOf s2).toNat)
    case atStart => exact ⟨0, rfl, Nat.zero_le _, ⟨SpR.refl _ _⟩, CUR⟩
    case round =>
      clear CUR
      obtain ⟨i, rfl, hi, BW, CUR⟩ := hrel
      by_cases hlt : i < c
      · obtain ⟨cs, hcs, hh⟩ := CUR.out
        have c0 : wr.cell? ⟨g, i * 3, none⟩ = some cs[i * 3] := (cell_of_row _ _ _ _ _ _ hh).trans (Array.getElem?_eq_getElem (by omega))
        have c1 : wr.cell? ⟨g, i * 3 + 1, none⟩ = some cs[i * 3 + 1] := (cell_of_row _ _ _ _ _ _ hh).trans (Array.getElem?_eq_getElem (by omega))
        have c2 : wr.cell? ⟨g, i * 3 + 2, none⟩ = some cs[i * 3 + 2] := (cell_of_row _ _ _ _ _ _ hh).trans (Array.getElem?_eq_getElem (by omega))
        have f0 : wr.frozen? ⟨g, i * 3, none⟩ = false := frozen_of_row _ _ _ _ _ hh
        have f1 : wr.frozen? ⟨g, i * 3 + 1, none⟩ = false := frozen_of_row _ _ _ _ _ hh
        have f2 : wr.frozen? ⟨g, i * 3 + 2, none⟩ = false := frozen_of_row _ _ _ _ _ hh
        generalize cs[i * 3] = v0 at c0
        generalize cs[i * 3 + 1] = v1 at c1
        generalize cs[i * 3 + 2] = v2 at c2
        have HH := Asd.mk hh
        have HC := Asd.mk hcs
        clear hh hcs CUR
        go_wp2_with fail
        go_roundw
        case measure => simp [intOf]; omega
        case rel => exact ⟨i + 1, by go_num, by omega, ⟨((BW.out.set _ _).set _ _).set _ _⟩, ⟨_, by rw [Array.size_setIfInBounds, Array.size_setIfInBounds, Array.size_setIfInBounds]; exact HC.out, put_cells (put_cells (put_cells HH.out _ _) _ _) _ _⟩⟩
      · go_wp2_with fail
        go_end0
        exact ⟨rfl, BW.out⟩

/-- What is turned when results are spoilt. -/
structure SpS (A : Option Addr) (rr : List RRes) (w w' : World) : Prop where
  os : w'.os = w.os
  tape : w'.tape = w.tape
  output : w'.output = w.output
  size : w'.heap.size = w.heap.size
  block : ∀ k : Nat, (∀ a, A = some a → a.block ≠ k) → (∀ q ∈ rr, ∀ a, q.A = some a → a.block ≠ k) → w'.heap[k]? = w.heap[k]?
theorem SpS.refl (A : Option Addr) (rr : List RRes) (w : World) : SpS A rr w w := ⟨rfl, rfl, rfl, rfl, fun _ _ _ => rfl⟩
theorem SpS.rows {A : Option Addr} {rr : List RRes} {w w' w2 : World} (h : SpS A rr w w') {q : RRes} (hq : q ∈ rr) (s : SpR q.A w' w2) : SpS A rr w w2 :=
  ⟨s.os.trans h.os, s.tape.trans h.tape, s.output.trans h.output, s.size.trans h.size, fun k h1 h2 => (s.block k (h2 q hq)).trans (h.block k h1 h2)⟩
theorem SpS.set {g : Nat} {rr : List RRes} {w w' : World} (h : SpS (some ⟨g, 0, none⟩) rr w w') (j : Nat) (u : Value) : SpS (some ⟨g, 0, none⟩) rr w (w'.setCell ⟨g, j, none⟩ u) :=
  ⟨h.os, h.tape, h.output, by simpa [World.setCell] using h.size, fun k h1 h2 => (Below.heap_setCell w' ⟨g, j, none⟩ u k (fun e => h1 _ rfl e.symm)).trans (h.block k h1 h2)⟩
theorem shp_set {w : World} {g n c k : Nat} {A : Option Addr} (h : Shp w 53 k A n c) (hT : IsT w g 39) (j : Nat) (u : Value) : Shp (w.setCell ⟨g, j, none⟩ u) 53 k A n c := by
  rcases h with h | ⟨g', cs, h1, h2, h3⟩
  · exact .inl h
  · refine .inr ⟨g', cs, h1, (Below.heap_setCell _ _ _ _ ?_).trans h2, h3⟩
    exact IsT.ne ⟨_, _, h2⟩ hT (by decide)

set_option maxHeartbeats 8000000 in
set_option maxRecDepth 100000 in
theorem SpoilS_calls {w : World} {own B base : Nat} {A : Option Addr} {n c : Nat} {rr : List RRes} {rs : List Res} (hO : w.ownsRow own 39 4 (.slice A n c) n (resCells rr)) (hM : RMs base B w rr rs) :
    Calls Try.prog 47 #[.slice A n c] w fun e w' => e = .returned (.tuple #[]) ∧ SpS A rr w w' := by
  have hlen : rr.length = n := by
    obtain ⟨_, _, e, h⟩ := Rd.of_own (base := base) hO
    injection e with e1 _ e2
    subst e1 e2
    exact h.count (enc := RRes.enc) (fun _ => rfl) (by omega)
  have hshp : ∀ q ∈ rr, Shp w 53 3 q.A q.n q.c := fun q hq => by
    obtain ⟨i, hi, rfl⟩ := List.mem_iff_getElem.1 hq
    exact Shp.own (All2.at_ hM i hi (by rw [← All2.len hM]; exact hi)).own rfl
  have SH := Asd.mk hshp
  have N := Asd.mk hlen
  clear hM hshp hlen
  rcases hO.2 with ⟨hv, hn0⟩ | ⟨g, cap, cur, hv, hb, hh, h1, h2, h3, h4⟩
  · injection hv with hv1 hv2 hv3
    subst hv1 hv2 hv3
    clear hO
    go_enter Try.func47, Try.ntmps47
    go_wp2_with fail
    go_loopw [2] (fun s2 wr => s2 = .int .i64 0 ∧ Asd (wr = w)) (fun _ _ => 0)
    case atStart => exact ⟨rfl, ⟨rfl⟩⟩
    case round =>
      obtain ⟨rfl, HW⟩ := hrel
      have hw := HW.out
      go_wp2_with fail
      go_end0
      exact ⟨rfl, SpS.refl _ _ _⟩
  · injection hv with hv1 hv2 hv3
    subst hv1 hv3
    have hcells : ∀ j (hj : j < rr.length), w.cell? ⟨g, j * 4 + 3, none⟩ = some (.slice rr[j].A rr[j].n rr[j].c) := fun j hj => by
      obtain ⟨_, _, e, h⟩ := Rd.of_own (base := base) hO
      injection e with e1 _ e2
      subst e1 e2
      obtain ⟨b', off', hA, _, _, hcs⟩ := h.at_enc (enc := RRes.enc) (fun _ => rfl) (by omega) (show j < n by have := N.out; omega)
      injection hA with hA
      injection hA with hA1 hA2 _
      subst hA1 hA2
      have := hcs 3 _ rfl
      rwa [Nat.zero_add] at this
    have CE : Asd (∀ j (hj : j < rr.length), 0 ≤ j → w.cell? ⟨g, j * 4 + 3, none⟩ = some (.slice rr[j].A rr[j].n rr[j].c)) := ⟨fun j hj _ => hcells j hj⟩
    have CUR : Asd (∃ cs : Array Value, cs.size = c * 4 ∧ w.heap[g]? = some (.cells cs 39 (0, 0))) := ⟨cur, h3, hh⟩
    have hnc : n ≤ c := h1
    have hcm : c ≤ 9223372036854775807 := by unfold maxLen at h2; omega
    clear hO hh h3 h4 hb hcells h2
    go_enter Try.func47, Try.ntmps47
    go_wp2_with fail
    go_loopw [2] (fun s2 wr => ∃ i : Nat, s2 = .int .i64 i ∧ i ≤ n ∧ Asd (SpS (some ⟨g, 0, none⟩) rr w wr) ∧ Asd (∃ cs : Array Value, cs.size = c * 4 ∧ wr.heap[g]? = some (.cells cs 39 (0, 0))) ∧ Asd (∀ q ∈ rr, Shp wr 53 3 q.A q.n q.c) ∧ Asd (∀ j (hj : j < rr.length), i ≤ j → wr.cell? ⟨g, j * 4 + 3, none⟩ = some (.slice rr[j].A rr[j].n rr[j].c))) (fun s2 _ => n - (intOf s2).toNat)
    case atStart => exact ⟨0, rfl, Nat.zero_le _, ⟨SpS.refl _ _ _⟩, CUR, SH, CE⟩
    case round =>
      clear CUR SH CE
      obtain ⟨i, rfl, hi, BW, CUR, SH, CE⟩ := hrel
      by_cases hlt : i < n
      · have hil : i < rr.length := by have := N.out; omega
        have c3 := CE.out i hil (Nat.le_refl _)
        have hq := SH.out rr[i] (List.getElem_mem hil)
        have MQ := Asd.mk (List.getElem_mem hil)
        have hic : i < c := by omega
        generalize rr[i] = q at c3 hq MQ
        have SPC := Asd.mk (SpoilR_calls hq)
        clear hq
        go_wp2_with fail
        refine SPC.out.mono ?_
        rintro e w1 ⟨rfl, hs⟩
        obtain ⟨cs, hcs, hh⟩ := CUR.out
        have hne : ∀ a, q.A = some a → a.block ≠ g := fun a ha => by
          rcases SH.out q MQ.out with ⟨h1, _⟩ | ⟨g', cs', h1, h2, _⟩
          · rw [h1] at ha; cases ha
          · rw [h1] at ha
            injection ha with ha
            subst ha
            exact IsT.ne ⟨_, _, h2⟩ ⟨_, _, hh⟩ (by decide)
        have hh1 : w1.heap[g]? = some (.cells cs 39 (0, 0)) := (hs.block g hne).trans hh
        have B1 := Asd.mk (BW.out.rows MQ.out hs)
        have S1 : Asd (∀ p ∈ rr, Shp w1 53 3 p.A p.n p.c) := ⟨fun p hp => (SH.out p hp).spr hs⟩
        have C1 : Asd (∀ j (hj : j < rr.length), i ≤ j → w1.cell? ⟨g, j * 4 + 3, none⟩ = some (.slice rr[j].A rr[j].n rr[j].c)) := ⟨fun j hj hij => (World.cell?_of_block (w := wr) (hs.block g hne)).trans (CE.out j hj hij)⟩
        have d0 : w1.cell? ⟨g, i * 4, none⟩ = some cs[i * 4] := (cell_of_row _ _ _ _ _ _ hh1).trans (Array.getElem?_eq_getElem (by omega))
        have d1 : w1.cell? ⟨g, i * 4 + 1, none⟩ = some cs[i * 4 + 1] := (cell_of_row _ _ _ _ _ _ hh1).trans (Array.getElem?_eq_getElem (by omega))
        have d2 : w1.cell? ⟨g, i * 4 + 2, none⟩ = some cs[i * 4 + 2] := (cell_of_row _ _ _ _ _ _ hh1).trans (Array.getElem?_eq_getElem (by omega))
        have d3 : w1.cell? ⟨g, i * 4 + 3, none⟩ = some cs[i * 4 + 3] := (cell_of_row _ _ _ _ _ _ hh1).trans (Array.getElem?_eq_getElem (by omega))
        have f0 : w1.frozen? ⟨g, i * 4, none⟩ = false := frozen_of_row _ _ _ _ _ hh1
        have f1 : w1.frozen? ⟨g, i * 4 + 1, none⟩ = false := frozen_of_row _ _ _ _ _ hh1
        have f2 : w1.frozen? ⟨g, i * 4 + 2, none⟩ = false := frozen_of_row _ _ _ _ _ hh1
        have f3 : w1.frozen? ⟨g, i * 4 + 3, none⟩ = false := frozen_of_row _ _ _ _ _ hh1
        generalize cs[i * 4] = v0 at d0
        generalize cs[i * 4 + 1] = v1 at d1
        generalize cs[i * 4 + 2] = v2 at d2
        generalize cs[i * 4 + 3] = v3 at d3
        have HH := Asd.mk hh1
        have HC := Asd.mk hcs
        have IT : Asd (IsT w1 g 39) := ⟨_, _, hh1⟩
        clear hh hh1 hcs CUR hs hne SPC c3 BW SH CE
        go_wp2_with fail
        go_roundw
        case measure => simp [intOf]; omega
        case rel =>
          refine ⟨i + 1, by go_num, by omega, ⟨(((B1.out.set _ _).set _ _).set _ _).set _ _⟩, ⟨_, by rw [Array.size_setIfInBounds, Array.size_setIfInBounds, Array.size_setIfInBounds, Array.size_setIfInBounds]; exact HC.out, put_cells (put_cells (put_cells (put_cells HH.out _ _) _ _) _ _) _ _⟩, ⟨fun p hp => shp_set (shp_set (shp_set (shp_set (S1.out p hp) IT.out _ _) (IT.out.set _ _) _ _) ((IT.out.set _ _).set _ _) _ _) (((IT.out.set _ _).set _ _).set _ _) _ _⟩, ⟨fun j hj hij => ?_⟩⟩
          rw [cell_of_row _ _ _ _ _ _ (put_cells (put_cells (put_cells (put_cells HH.out _ _) _ _) _ _) _ _)]
          have h5 := C1.out j hj (by omega)
          rw [cell_of_row _ _ _ _ _ _ HH.out] at h5
          simp only [Array.getElem?_setIfInBounds]
          rw [if_neg (by omega), if_neg (by omega), if_neg (by omega), if_neg (by omega)]
          exact h5
      · go_wp2_with fail
        go_end0
        exact ⟨rfl, BW.out⟩
end Go.Proofs.Ytehfaeafefkngaa

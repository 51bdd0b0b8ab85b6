/- The table in plain Lean: rows sorted by keys; what an operation does to them. More words on memory. -/
import Derived.Test.YtallnibjmffahaaGreatDoorJ02
import Derived.Test.YtallnibjmffahaaGreatDoorJ01
set_option linter.unusedVariables false
set_option linter.unusedSimpArgs false
namespace Go.Proofs.YtallnibjmffahaaGreatDoor

theorem pos_cons (x : ByteArray) (r : Rw) (l : List Rw) : pos x (r :: l) = if klt r.key x then pos x l + 1 else pos x l := by
  unfold pos
  rw [List.countP_cons]
  by_cases h : klt r.key x <;> simp [h]
theorem pos_le (x : ByteArray) (l : List Rw) : pos x l ≤ l.length := List.countP_le_length
theorem pos_zero (x : ByteArray) (l : List Rw) (h : ∀ r ∈ l, ¬ klt r.key x) : pos x l = 0 := by
  unfold pos
  rw [List.countP_eq_zero]
  intro r hr
  simpa using h r hr
theorem Sorted.tail {r : Rw} {l : List Rw} (h : Sorted (r :: l)) : Sorted l := (List.pairwise_cons.1 h).2
theorem Sorted.head {r : Rw} {l : List Rw} (h : Sorted (r :: l)) : ∀ q ∈ l, klt r.key q.key := (List.pairwise_cons.1 h).1

theorem take_pos (x : ByteArray) : ∀ (l : List Rw), Sorted l → ∀ r ∈ l.take (pos x l), klt r.key x
  | [], _ => by simp
  | q :: l, h => by
    rw [pos_cons]
    by_cases hq : klt q.key x
    · rw [if_pos hq]
      intro r hr
      rw [List.take_succ_cons] at hr
      rcases List.mem_cons.1 hr with rfl | hr
      · exact hq
      · exact take_pos x l h.tail r hr
    · rw [if_neg hq, pos_zero x l (fun r hr hk => hq (klt_trans (h.head r hr) hk))]
      simp
theorem drop_pos (x : ByteArray) : ∀ (l : List Rw), Sorted l → ∀ r ∈ l.drop (pos x l), ¬ klt r.key x
  | [], _ => by simp
  | q :: l, h => by
    rw [pos_cons]
    by_cases hq : klt q.key x
    · rw [if_pos hq]
      intro r hr
      rw [List.drop_succ_cons] at hr
      exact drop_pos x l h.tail r hr
    · rw [if_neg hq, pos_zero x l (fun r hr hk => hq (klt_trans (h.head r hr) hk))]
      intro r hr hk
      rcases List.mem_cons.1 (by simpa using hr : r ∈ q :: l) with rfl | hr
      · exact hq hk
      · exact hq (klt_trans (h.head r hr) hk)
theorem Sorted.drop {l : List Rw} (h : Sorted l) (i : Nat) : Sorted (l.drop i) := List.Pairwise.sublist (List.drop_sublist i l) h
theorem Sorted.take {l : List Rw} (h : Sorted l) (i : Nat) : Sorted (l.take i) := List.Pairwise.sublist (List.take_sublist i l) h

theorem there_iff (x : ByteArray) (l : List Rw) : there x l = true ↔ ∃ r ∈ l, r.key = x := by
  unfold there
  simp
/-- Where x is there, it stands at its place; behind it all are greater. -/
theorem there_drop {x : ByteArray} {l : List Rw} (h : Sorted l) (ht : there x l = true) : ∃ r rest, l.drop (pos x l) = r :: rest ∧ r.key = x ∧ ∀ q ∈ rest, klt x q.key := by
  obtain ⟨r, hr, hk⟩ := (there_iff x l).1 ht
  have hd : r ∈ l.drop (pos x l) := by
    rw [← List.take_append_drop (pos x l) l] at hr
    rcases List.mem_append.1 hr with h1 | h1
    · exact absurd (take_pos x l h r h1) (by rw [hk]; exact klt_irrefl x)
    · exact h1
  have hs := h.drop (pos x l)
  have hge := drop_pos x l h
  cases e : l.drop (pos x l) with
  | nil => rw [e] at hd; cases hd
  | cons q rest =>
    rw [e] at hd hs hge
    have hqr : q = r := by
      rcases List.mem_cons.1 hd with h1 | h1
      · exact h1.symm
      · have := hs.head r h1
        rw [hk] at this
        exact absurd this (hge q (List.mem_cons_self ..))
    subst hqr
    exact ⟨q, rest, rfl, hk, fun p hp => by rw [← hk]; exact hs.head p hp⟩
theorem notthere_drop {x : ByteArray} {l : List Rw} (h : Sorted l) (ht : there x l = false) : ∀ q ∈ l.drop (pos x l), klt x q.key := by
  intro q hq
  rcases klt_tri x q.key with h1 | h1 | h1
  · exact h1
  · exact absurd ((there_iff x l).2 ⟨q, List.mem_of_mem_drop hq, h1.symm⟩) (by rw [ht]; simp)
  · exact absurd h1 (drop_pos x l h q hq)
def rowAt (l : List Rw) (i : Nat) : Rw := l.getD i default
theorem rowAt_eq {l : List Rw} {i : Nat} (h : i < l.length) : rowAt l i = l[i] := by simp [rowAt, List.getD_eq_getElem?_getD, List.getElem?_eq_getElem h]
theorem pos_lt {x : ByteArray} {l : List Rw} (h : Sorted l) (ht : there x l = true) : pos x l < l.length ∧ (rowAt l (pos x l)).key = x := by
  obtain ⟨r, rest, e, hk, _⟩ := there_drop h ht
  have hl : pos x l < l.length := by
    rcases Nat.lt_or_ge (pos x l) l.length with h1 | h1
    · exact h1
    · rw [List.drop_eq_nil_of_le h1] at e; cases e
  refine ⟨hl, ?_⟩
  rw [rowAt_eq hl]
  rw [List.drop_eq_getElem_cons hl] at e
  injection e with e1 _
  rw [e1]
  exact hk
theorem drop_succ_pos {x : ByteArray} {l : List Rw} (h : Sorted l) (ht : there x l = true) : ∀ q ∈ l.drop (pos x l + 1), klt x q.key := by
  obtain ⟨r, rest, e, hk, hr⟩ := there_drop h ht
  have : l.drop (pos x l + 1) = rest := by rw [← List.drop_drop, e]; rfl
  rw [this]
  exact hr
/-- Rows put in their place are sorted. -/
theorem sorted_put {l : List Rw} (h : Sorted l) (r : Rw) (to : Nat) (hto : pos r.key l ≤ to) (hd : ∀ q ∈ l.drop to, klt r.key q.key) : Sorted (l.take (pos r.key l) ++ [r] ++ l.drop to) := by
  unfold Sorted
  rw [List.append_assoc, List.pairwise_append]
  refine ⟨h.take _, ?_, ?_⟩
  · rw [List.singleton_append, List.pairwise_cons]
    exact ⟨hd, h.drop _⟩
  · intro a ha b hb
    have h1 := take_pos r.key l h a ha
    rcases List.mem_cons.1 (by simpa using hb : b ∈ r :: l.drop to) with rfl | hb
    · exact h1
    · exact klt_trans h1 (hd b hb)
theorem sorted_cut {l : List Rw} (h : Sorted l) (i j : Nat) (hij : i ≤ j) : Sorted (l.take i ++ l.drop j) := by
  have : (l.take i ++ l.drop j).Sublist l := by
    have h1 : l.drop j = (l.drop i).drop (j - i) := by rw [List.drop_drop]; congr 1; omega
    rw [h1]
    conv => rhs; rw [← List.take_append_drop i l]
    exact List.Sublist.append_left (List.drop_sublist _ _) _
  exact List.Pairwise.sublist this h

/-- A result: its code, stamp, value, rows. -/
structure Res where
  code : Int
  stamp : Int
  val : ByteArray
  rows : List Rw
def Res.fail (code stamp : Int) : Res := ⟨code, stamp, ⟨#[]⟩, []⟩

/-- What an operation that writes does. -/
def writeP (l : List Rw) (x : OpR) : List Rw × Res :=
  let i := pos x.key l
  let t := there x.key l
  let s := (rowAt l i).stamp
  if t = true ∧ x.kind = 1 then (l, .fail 90 s)
  else if t = true ∧ ((x.test ≠ 0 ∧ x.test ≠ s) ∨ x.stamp ≤ s) then (l, .fail 92 s)
  else if t = false ∧ (x.kind = 2 ∨ x.test ≠ 0) then (l, .fail 91 0)
  else if (4096 : Int) < x.val.size then (l, .fail 93 0)
  else if t = false ∧ 4096 ≤ l.length then (l, .fail 22 0)
  else (l.take i ++ [⟨x.key, x.stamp, x.val⟩] ++ l.drop (if t then i + 1 else i), .fail 0 x.stamp)
/-- What an operation does. -/
def oneP (l : List Rw) (x : OpR) : List Rw × Res :=
  let i := pos x.key l
  let t := there x.key l
  let s := rowAt l i
  if x.kind = 6 then (l, ⟨0, 0, ⟨#[]⟩, (l.drop i).take (min x.most ((l.length : Int) - i)).toNat⟩)
  else if x.kind = 4 ∨ x.kind = 5 then
    if t = false then (l, .fail 91 0)
    else if x.test ≠ 0 ∧ x.test ≠ s.stamp then (l, .fail 92 s.stamp)
    else if x.kind = 5 then (l, ⟨0, s.stamp, s.val, []⟩)
    else (l.take i ++ l.drop (i + 1), .fail 0 s.stamp)
  else writeP l x

theorem writeP_sorted {l : List Rw} (h : Sorted l) (x : OpR) : Sorted (writeP l x).1 := by
  unfold writeP
  dsimp only
  split
  · exact h
  · split
    · exact h
    · split
      · exact h
      · split
        · exact h
        · split
          · exact h
          · cases ht : there x.key l with
            | true => exact sorted_put h ⟨x.key, x.stamp, x.val⟩ _ (by simp) (by simpa using drop_succ_pos h ht)
            | false => exact sorted_put h ⟨x.key, x.stamp, x.val⟩ _ (by simp) (by simpa using notthere_drop h ht)
theorem writeP_len {l : List Rw} (h : Sorted l) (hl : l.length ≤ 4096) (x : OpR) : (writeP l x).1.length ≤ 4096 := by
  unfold writeP
  dsimp only
  split
  · exact hl
  · split
    · exact hl
    · split
      · exact hl
      · split
        · exact hl
        · split
          · exact hl
          · rename_i h5
            have hp := pos_le x.key l
            cases ht : there x.key l with
            | true =>
              have := (pos_lt h ht).1
              simp [ht]
              omega
            | false =>
              simp [ht] at h5
              simp [ht]
              omega
theorem oneP_sorted {l : List Rw} (h : Sorted l) (x : OpR) : Sorted (oneP l x).1 := by
  unfold oneP
  dsimp only
  split
  · exact h
  · split
    · split
      · exact h
      · split
        · exact h
        · split
          · exact h
          · exact sorted_cut h _ _ (by omega)
    · exact writeP_sorted h x
theorem oneP_len {l : List Rw} (h : Sorted l) (hl : l.length ≤ 4096) (x : OpR) : (oneP l x).1.length ≤ 4096 := by
  unfold oneP
  dsimp only
  split
  · exact hl
  · split
    · split
      · exact hl
      · split
        · exact hl
        · split
          · exact hl
          · have hp := pos_le x.key l
            simp
            omega
    · exact writeP_len h hl x

end Go.Proofs.YtallnibjmffahaaGreatDoor

set_option linter.unusedVariables false
set_option linter.unusedSimpArgs false
namespace Go.Proofs.YtallnibjmffahaaGreatDoor
open Go.RowKit

theorem bcell {W w1 : World} (hb : Below W.heap.size W w1) : (∀ b o, b < W.heap.size → w1.cell? ⟨b, o, none⟩ = W.cell? ⟨b, o, none⟩) ∧ (∀ b o, b < W.heap.size → w1.frozen? ⟨b, o, none⟩ = W.frozen? ⟨b, o, none⟩) :=
  ⟨fun b o h => hb.cell (p := ⟨b, o, none⟩) h, fun b o h => hb.frozen (p := ⟨b, o, none⟩) h⟩

theorem below_dn {B : Nat} (w : World) (n : Nat) : Below B w (w.drewN n) := ⟨rfl, rfl, rfl, Nat.le_refl _, fun _ _ => rfl⟩
theorem gb_set {w W : World} {r : Option Nat} (h : w.grownBy W r) {p : Addr} (hp : w.heap.size ≤ p.block) (u : Value) : w.grownBy (W.setCell p u) r :=
  ⟨h.os, h.tape, h.output, by simpa [World.setCell] using h.size, fun k hk hne => (Below.heap_setCell W p u k (by omega)).trans (h.block k hk hne)⟩
theorem gb_below {w W : World} (h : Below w.heap.size w W) (r : Option Nat) : w.grownBy W r := ⟨h.os, h.tape, h.output, h.size, fun k hk _ => h.block k hk⟩
theorem gb_trans {w W V : World} {r : Option Nat} (h : w.grownBy W r) (k : W.grownBy V r) : w.grownBy V r :=
  ⟨k.os.trans h.os, k.tape.trans h.tape, k.output.trans h.output, Nat.le_trans h.size k.size, fun i hi hne => (k.block i (Nat.lt_of_lt_of_le hi h.size) hne).trans (h.block i hi hne)⟩

/-- Block r is cells of type U. -/
def IsT (w : World) (r : Nat) (U : TypeId) : Prop := ∃ cs fr, w.heap[r]? = some (.cells cs U fr)
theorem IsT.set {w : World} {r : Nat} {U : TypeId} (h : IsT w r U) (p : Addr) (u : Value) : IsT (w.setCell p u) r U := by
  obtain ⟨cs, fr, e⟩ := h
  by_cases hp : r = p.block
  · subst hp
    exact ⟨_, fr, by simp only [World.setCell, Array.getElem?_modify, e]; rfl⟩
  · exact ⟨cs, fr, (Below.heap_setCell w p u r hp).trans e⟩
theorem IsT.of_block {w W : World} {r : Nat} {U : TypeId} (h : IsT w r U) (e : W.heap[r]? = w.heap[r]?) : IsT W r U := by
  obtain ⟨cs, fr, h⟩ := h
  exact ⟨cs, fr, e.trans h⟩
theorem IsT.lt {w : World} {r : Nat} {U : TypeId} (h : IsT w r U) : r < w.heap.size := by
  obtain ⟨cs, fr, h⟩ := h
  exact (Array.getElem?_eq_some_iff.1 h).1
end Go.Proofs.YtallnibjmffahaaGreatDoor

/- Words: a table's key, rows, slices of structs. -/
import Derived.Test.YtgiajfgeplekbaaTb1
import Derived.Test.YtgiajfgeplekbaaWe
import Derived.BigRegion
import Derived.Deep.QuietTactic
import Derived.BigQuiet
import Derived.StillTailTactics
import Derived.Shelf.Abstract
import Derived.Deep.RegionLaw
import Derived.WalkSpells
set_option linter.unusedVariables false
set_option linter.unusedSimpArgs false
namespace Go.Proofs.Ytgiajfgeplekbaa
open Go.RowKit

theorem at1_calls (x : ByteArray) (w : World) (r : Rw) :
    Calls Try.prog 83 #[.agg r.enc.toArray, .string x] w fun e w' => e = .returned (.int .i64 (Lib.compareBytes r.key.data.toList x.data.toList)) ∧ Below w.heap.size w w' := by
  unfold Rw.enc
  go_enter Try.func83, Try.ntmps83
  go_wp2_with (go_at_call 50; refine (strings_Compare _ _ _).mono ?_; rintro e w' ⟨rfl, rfl⟩)
  go_ret
  exact ⟨rfl, (Below.refl _ _).alloc (Nat.le_refl _) _⟩

/-- The table at block g, made since base, has the rows l. -/
structure Tab (base : Nat) (w : World) (g : Nat) (l : List Rw) (A : Option Addr) (c : Nat) : Prop where
  blk : w.heap[g]? = some (.cells #[.slice A l.length c] 91 (0, 0))
  ge : base ≤ g
  rd : Rd base 29 w 3 A l.length c (rowCells l)
  srt : Sorted l
  big : l.length ≤ 4096
  old : ∀ a, A = some a → a.block < w.heap.size

section
variable {base g c : Nat} {w w' : World} {l : List Rw} {A : Option Addr}
theorem Tab.lt (h : Tab base w g l A c) : g < w.heap.size := (Array.getElem?_eq_some_iff.1 h.blk).1
theorem Tab.cell (h : Tab base w g l A c) : w.cell? ⟨g, 0, none⟩ = some (.slice A l.length c) := (cell_of_row w g 0 _ _ _ h.blk).trans rfl
theorem Tab.below (h : Tab base w g l A c) (hb : Below w.heap.size w w') : Tab base w' g l A c := ⟨(hb.block g h.lt).trans h.blk, h.ge, h.rd.below hb, h.srt, h.big, fun a ha => Nat.lt_of_lt_of_le (h.old a ha) hb.size⟩
theorem Tab.grown (h : Tab base w g l A c) {g' : Nat} {cs : Array Value} {fr : Nat × Nat} (hg : w.grownBy w' (some g')) (hh : w.heap[g']? = some (.cells cs 91 fr)) (hge : base ≤ g') (hne : g ≠ g') : Tab base w' g l A c :=
  ⟨(hg.block g h.lt (by simpa using hne)).trans h.blk, h.ge, h.rd.grown hg hh (by decide) hge, h.srt, h.big, fun a ha => Nat.lt_of_lt_of_le (h.old a ha) hg.size⟩
end

theorem at_calls {base g c : Nat} {w : World} {l : List Rw} {A : Option Addr} (h : Tab base w g l A c) (x : ByteArray) :
    Calls Try.prog 69 #[.pointer (some ⟨g, 0, none⟩), .string x] w fun e w' => e = .returned (.tuple #[.int .i64 (pos x l), .bool (there x l)]) ∧ Below w.heap.size w w' := by
  have hc := h.cell
  have hb := bsearch (base := base) (T := 29) 83 (enters_of Try.func83 (by kernel_rfl) rfl) x w (fun W r => at1_calls x W r) A l.length c l h.rd rfl (by have := h.big; omega) h.srt
  clear h
  go_enter Try.func69, Try.ntmps69
  go_wp2_with fail
  refine hb.mono ?_
  rintro e w' ⟨rfl, hb'⟩
  go_wp2_with fail
  go_ret2
  exact ⟨rfl, hb'⟩

theorem New_calls (base : Nat) (w : World) (hb : base ≤ w.heap.size) :
    Calls Try.prog 51 #[] w fun e w' => ∃ g, e = .returned (.pointer (some ⟨g, 0, none⟩)) ∧ Tab base w' g [] none 0 ∧ w.heap.size ≤ g ∧ Below w.heap.size w w' := by
  go_enter Try.func51, Try.ntmps51
  go_wp2
  go_ret
  refine ⟨_, rfl, ⟨heap_alloc_new w _, hb, Rd.none_, List.Pairwise.nil, by simp, fun a ha => by cases ha⟩, Nat.le_refl _, (Below.refl _ _).alloc (Nat.le_refl _) _⟩
theorem elt_row : Elt Try.prog 22 29 3 40 := Elt.mk' Try.underlying22 (z := .agg #[.string ⟨#[]⟩, .int .i64 0, .string ⟨#[]⟩]) (by kernel_rfl) rfl (by omega)

/-- The rows' slice is as it was, or lies in a new block. -/
def Fr (w : World) (A A' : Option Addr) : Prop := A' = A ∨ ∀ a, A' = some a → w.heap.size ≤ a.block
theorem Fr.own {w w2 : World} {own e k n m c : Nat} {A A' : Option Addr} {xs : List Value} (h : w2.ownsRow own e k (.slice A' n c) m xs) (hle : w.heap.size ≤ own) : Fr w A A' :=
  .inr fun a ha => Nat.le_trans hle (h.lt a.block (by rw [ha]; rfl)).1
theorem Fr.trans {w w1 : World} {A A1 A2 : Option Addr} (h : Fr w A A1) (k : Fr w1 A1 A2) (hs : w.heap.size ≤ w1.heap.size) : Fr w A A2 := by
  rcases k with rfl | k
  · exact h
  · exact .inr fun a ha => Nat.le_trans hs (k a ha)

theorem Fr.mono {w w1 : World} {A A' : Option Addr} (h : Fr w1 A A') (hs : w.heap.size ≤ w1.heap.size) : Fr w A A' := h.imp id fun k a ha => Nat.le_trans hs (k a ha)
theorem tl_nil (a : ByteArray) : (a.toList = []) = (a.size = 0) := by
  rw [toList_eq]
  apply propext
  constructor
  · intro h
    have : a.data.toList.length = a.size := by simp
    rw [h] at this
    exact this.symm
  · intro h; rw [size_zero h]

/-- The cells of element i of a slice of structs. -/
theorem Rd.at_enc {base : Nat} {T : TypeId} {w : World} {α : Type} {enc : α → List Value} {k n c : Nat} {A : Option Addr} {l : List α} (h : Rd base T w k A n c (l.flatMap enc)) (hk : ∀ x, (enc x).length = k) (h0 : 0 < k) {i : Nat} (hi : i < n) :
    ∃ b off, A = some ⟨b, off, none⟩ ∧ b < w.heap.size ∧ ∃ hl : i < l.length, ∀ j v, (enc l[i])[j]? = some v → w.cell? ⟨b, off + i * k + j, none⟩ = some v := by
  have hlen := h.count hk h0
  obtain ⟨b, off, e, hb, hc⟩ := h.elem hi
  have hil : i < l.length := by omega
  refine ⟨b, off, e, hb, hil, fun j v hj => ?_⟩
  have hjk : j < k := by
    have := (List.getElem?_eq_some_iff.1 hj).1
    rw [hk] at this
    exact this
  rw [hc j hjk, flat_get enc k hk l i j hil hjk]
  exact hj
/-- Loading element i whole. -/
theorem Rd.load {base : Nat} {T : TypeId} {w : World} {α : Type} {enc : α → List Value} {k n c : Nat} {A : Option Addr} {l : List α} (h : Rd base T w k A n c (l.flatMap enc)) (hk : ∀ x, (enc x).length = k) (h0 : 0 < k) {i : Nat} (hi : i < n) (P : Program) :
    ∃ b off, A = some ⟨b, off, none⟩ ∧ b < w.heap.size ∧ ∃ hl : i < l.length, Sem.run P (loadCellsFrom ⟨b, off + i * k, none⟩ 0 k #[]) w = .ok (enc l[i]).toArray w := by
  obtain ⟨b, off, e, hb, hl, hc⟩ := h.at_enc hk h0 hi
  exact ⟨b, off, e, hb, hl, run_load_list P w _ _ k (hk _) fun j v hj => by rw [add_lit']; exact hc j v hj⟩
/-- The place of the first that p holds of; -1. -/
def fidx {α : Type} (p : α → Bool) (l : List α) : Int := if l.any p then (l.findIdx p : Nat) else -1
theorem fidx_hit {α : Type} (p : α → Bool) (l : List α) (i : Nat) (hi : i < l.length) (h : p l[i] = true) (hb : ∀ j (hj : j < l.length), j < i → p l[j] = false) : fidx p l = i := by
  have h1 : l.any p = true := List.any_eq_true.2 ⟨_, List.getElem_mem hi, h⟩
  unfold fidx
  rw [if_pos h1]
  have : l.findIdx p = i := by
    rw [List.findIdx_eq hi]
    exact ⟨h, fun j hj => hb j (by omega) hj⟩
  rw [this]
theorem fidx_miss {α : Type} (p : α → Bool) (l : List α) (h : ∀ j (hj : j < l.length), p l[j] = false) : fidx p l = -1 := by
  have h1 : l.any p = false := by
    rw [List.any_eq_false]
    intro x hx
    obtain ⟨t, ht, rfl⟩ := List.getElem_of_mem hx
    rw [h t ht]
    simp
  unfold fidx
  rw [h1]
  rfl
theorem row_one (l : List Rw) : ∀ u ∈ rowCells l, u.oneCell' = true := by
  intro u hu
  unfold rowCells at hu
  obtain ⟨r, _, hr⟩ := List.mem_flatMap.1 hu
  simp only [Rw.enc, List.mem_cons, List.not_mem_nil, or_false] at hr
  rcases hr with rfl | rfl | rfl <;> rfl
/-- What a row may be. -/
def rowOk (r : Rw) : Bool := decide (r.key.size ≠ 0) && decide ((r.key.size : Int) ≤ 64) && decide (1 ≤ r.stamp) && decide (r.stamp ≤ 1099511627776) && decide ((r.val.size : Int) ≤ 4096)
set_option maxHeartbeats 1000000 in
theorem row_calls (r : Rw) (w : World) :
    Calls Try.prog 65 #[.agg r.enc.toArray] w fun e w' => e = .returned (.bool (rowOk r)) ∧ Below w.heap.size w w' := by
  obtain ⟨key, stamp, val⟩ := r
  unfold Rw.enc
  generalize hr : rowOk ⟨key, stamp, val⟩ = b
  have R := Asd.mk hr
  clear hr
  go_enter Try.func65, Try.ntmps65
  go_wp2
  all_goals
    go_ret
    refine ⟨?_, (Below.refl _ _).alloc (Nat.le_refl _) _⟩
    rw [← R.out]
    refine congrArg (fun b => Ending.returned (Value.bool b)) ?_
    rw [Bool.eq_iff_iff]
    simp [rowOk, -ByteArray.size_eq_zero_iff]
    try simp only [tl_nil] at *
    try omega
theorem own_ist {w : World} {b e k n : Nat} {v : Value} {xs : List Value} (h : w.ownsRow b e k v n xs) : ∀ j, v.ownBlock = some j → IsT w j e ∧ b ≤ j := by
  intro j hj
  rcases h.2 with ⟨rfl, _⟩ | ⟨g, cap, cur, rfl, hb, hgg, rest⟩
  · simp [Value.ownBlock] at hj
  · simp [Value.ownBlock] at hj
    subst hj
    exact ⟨⟨_, _, hgg⟩, hb⟩
theorem IsT.ne {w : World} {j i : Nat} {T U : TypeId} (h : IsT w j T) (k : IsT w i U) (hne : T ≠ U) : j ≠ i := by
  rintro rfl
  obtain ⟨cs, fr, e⟩ := h
  obtain ⟨cs', fr', e'⟩ := k
  rw [e] at e'
  injection e' with e'
  injection e' with _ e'
  exact hne e'
section
variable {base T U B e : Nat} {w w' : World} {row : Option Nat}
theorem Rd.grownR {k n c : Nat} {A : Option Addr} {xs : List Value} (h : Rd base T w k A n c xs) (hg : w.grownBy w' row) (hr : ∀ j, row = some j → IsT w j U ∧ base ≤ j) (hU : U ≠ T) : Rd base T w' k A n c xs :=
  h.keep hg.size fun b hs => hg.block b hs.lt (by
    intro e
    obtain ⟨⟨cs, fr, hc⟩, hb⟩ := hr b e.symm
    exact hs.ne hc hU hb rfl)
theorem own_grownR {k n : Nat} {v : Value} {xs : List Value} (h : w.ownsRow B e k v n xs) (hg : w.grownBy w' row) (hr : ∀ j, row = some j → IsT w j U) (hU : U ≠ e) : w'.ownsRow B e k v n xs := by
  refine h.kept hg ?_
  cases hv : v.ownBlock with
  | none => exact .inl rfl
  | some j =>
    refine .inr fun e => ?_
    exact ((own_ist h j hv).1.ne (hr j e.symm) hU.symm) rfl
theorem Tab.grownR {g c : Nat} {l : List Rw} {A : Option Addr} (h : Tab base w g l A c) (hg : w.grownBy w' row) (hr : ∀ j, row = some j → IsT w j U ∧ base ≤ j) (h1 : U ≠ 29) (h2 : U ≠ 91) : Tab base w' g l A c :=
  ⟨(hg.block g h.lt (fun e => (IsT.ne ⟨_, _, h.blk⟩ (hr g e.symm).1 h2.symm) rfl)).trans h.blk, h.ge, h.rd.grownR hg hr h1, h.srt, h.big, fun a ha => Nat.lt_of_lt_of_le (h.old a ha) hg.size⟩
end
def All2 {α β : Type} (R : α → β → Prop) : List α → List β → Prop
  | [], [] => True
  | a :: l, b :: m => R a b ∧ All2 R l m
  | _, _ => False
theorem All2.mono {α β : Type} {R S : α → β → Prop} (h : ∀ a b, R a b → S a b) : ∀ {l : List α} {m : List β}, All2 R l m → All2 S l m
  | [], [], _ => trivial
  | _ :: _, _ :: _, k => ⟨h _ _ k.1, All2.mono h k.2⟩
  | [], _ :: _, k => k.elim
  | _ :: _, [], k => k.elim
theorem All2.snoc {α β : Type} {R : α → β → Prop} {a : α} {b : β} : ∀ {l : List α} {m : List β}, All2 R l m → R a b → All2 R (l ++ [a]) (m ++ [b])
  | [], [], _, h => ⟨h, trivial⟩
  | _ :: _, _ :: _, k, h => ⟨k.1, All2.snoc k.2 h⟩
  | [], _ :: _, k, _ => k.elim
  | _ :: _, [], k, _ => k.elim
theorem All2.len {α β : Type} {R : α → β → Prop} : ∀ {l : List α} {m : List β}, All2 R l m → l.length = m.length
  | [], [], _ => rfl
  | _ :: _, _ :: _, k => by simp [All2.len k.2]
  | [], _ :: _, k => k.elim
  | _ :: _, [], k => k.elim
theorem All2.at_ {α β : Type} {R : α → β → Prop} : ∀ {l : List α} {m : List β} (h : All2 R l m) (i : Nat) (h1 : i < l.length) (h2 : i < m.length), R l[i] m[i]
  | _ :: _, _ :: _, k, 0, _, _ => k.1
  | _ :: _, _ :: _, k, i + 1, h1, h2 => All2.at_ k.2 i (by simpa using h1) (by simpa using h2)
  | [], _, _, _, h1, _ => by simp at h1
  | _ :: _, [], k, _, _, _ => k.elim
theorem gb_setg {w W : World} {g : Nat} (h : w.grownBy W (some g)) (u : Value) : w.grownBy (W.setCell ⟨g, 0, none⟩ u) (some g) :=
  ⟨h.os, h.tape, h.output, by simpa [World.setCell] using h.size, fun k hk hne => (Below.heap_setCell W ⟨g, 0, none⟩ u k (by simpa using hne)).trans (h.block k hk hne)⟩
def NeA (A B : Option Addr) : Prop := ∀ a a', A = some a → B = some a' → a.block ≠ a'.block
theorem NeA.fr {w : World} {A A' B : Option Addr} (h : NeA A B) (hf : Fr w A A') (hB : ∀ a, B = some a → a.block < w.heap.size) : NeA A' B := by
  intro a a' ha ha'
  rcases hf with rfl | hf
  · exact h a a' ha ha'
  · have := hf a ha
    have := hB a' ha'
    omega
theorem NeA.step {w : World} {A B B' : Option Addr} {n c n' c' : Nat} (h : NeA A B) (ho : (Value.slice B' n' c').ownBlock = (Value.slice B n c).ownBlock ∨ (Value.slice B' n' c').ownBlock = some w.heap.size) (hA : ∀ a, A = some a → a.block < w.heap.size) : NeA A B' := by
  intro a a' ha ha'
  subst ha'
  have e : (Value.slice (some a') n' c').ownBlock = some a'.block := rfl
  rw [e] at ho
  rcases ho with ho | ho
  · cases B with
    | none => simp [Value.ownBlock] at ho
    | some b =>
      have e2 : (Value.slice (some b) n c).ownBlock = some b.block := rfl
      rw [e2] at ho
      injection ho with ho
      rw [ho]
      exact h a b ha rfl
  · injection ho with ho
    have := hA a ha
    omega
theorem NeA.none_ (A : Option Addr) : NeA A none := fun _ _ _ h => by cases h

/-- The table stays when another row is turned, though it has the type of rows. -/
theorem Rd.keepA {base T k n c : Nat} {w w' : World} {A : Option Addr} {xs : List Value} (h : Rd base T w k A n c xs) (hs : w.heap.size ≤ w'.heap.size) (hk : ∀ a, A = some a → a.block < w.heap.size → w'.heap[a.block]? = w.heap[a.block]?) : Rd base T w' k A n c xs :=
  ⟨h.len, h.cap, h.nil, fun hn => by
    obtain ⟨b, off, e, hb, hc⟩ := h.at_ hn
    have := hk _ e hb.lt
    exact ⟨b, off, e, hb.keep hs this, fun j u hu => (World.cell?_of_block (w := w) (a := ⟨b, off + j, none⟩) this).trans (hc j u hu)⟩⟩
theorem Tab.apart {base g c n d : Nat} {w w' : World} {l : List Rw} {A B : Option Addr} (h : Tab base w g l A c) {m : Nat} {xs : List Value} {b : Nat} (ho : w.ownsRow b 29 3 (.slice B n d) m xs) (hg : w.grownBy w' (Value.slice B n d).ownBlock) (hne : NeA A B) : Tab base w' g l A c := by
  have hr : ∀ j, (Value.slice B n d).ownBlock = some j → IsT w j 29 := fun j hj => (own_ist ho j hj).1
  refine ⟨(hg.block g h.lt (fun e => (IsT.ne ⟨_, _, h.blk⟩ (hr g e.symm) (by decide)) rfl)).trans h.blk, h.ge, h.rd.keepA hg.size ?_, h.srt, h.big, fun a ha => Nat.lt_of_lt_of_le (h.old a ha) hg.size⟩
  intro a ha hl
  refine hg.block _ hl ?_
  cases B with
  | none => simp [Value.ownBlock]
  | some b' =>
    intro e
    have e2 : (Value.slice (some b') n d).ownBlock = some b'.block := rfl
    rw [e2] at e
    injection e with e
    exact hne a b' ha rfl e
theorem Rd.one_ {α : Type} {enc : α → List Value} {base T k n c : Nat} {w : World} {b off : Nat} {l : List α} (h : Rd base T w k (some ⟨b, off, none⟩) n c (l.flatMap enc)) (hk : ∀ x, (enc x).length = k) {i : Nat} (hi : i < n) (hl : i < l.length) :
    Rd base T w k (some ⟨b, off + i * k, none⟩) 1 (c - i) (enc l[i]) := by
  have hc := h.cap
  have := h.cut (lo := i) (hi := i + 1) (c' := c) (by omega) (by omega) (by omega) (Nat.le_refl _)
  rw [if_neg (by omega), show i + 1 - i = 1 by omega, flat_drop enc k hk, flat_take enc k hk, List.drop_eq_getElem_cons hl, List.take_succ_cons, List.take_zero] at this
  simpa [add_lit'] using this
end Go.Proofs.Ytgiajfgeplekbaa

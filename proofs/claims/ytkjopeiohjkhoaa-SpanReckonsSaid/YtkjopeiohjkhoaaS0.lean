/- Words: spans in memory. -/
import Derived.Test.YtkjopeiohjkhoaaChecked
import Derived.Test.YtkjopeiohjkhoaaWg
import Derived.Test.YtkjopeiohjkhoaaWe
import Derived.BigRegion
import Derived.Deep.QuietTactic
import Derived.BigQuiet
import Derived.StillTailTactics
import Derived.Shelf.Abstract
import Derived.Deep.RegionLaw
import Derived.WalkSpells
import Derived.OwnWalk
import Derived.Laws.Cover1
set_option linter.unusedVariables false
set_option linter.unusedSimpArgs false
namespace Go.Proofs.Ytkjopeiohjkhoaa
open Go.RowKit

theorem tl_nil (a : ByteArray) : (a.toList = []) = (a.size = 0) := by
  rw [toList_eq]
  apply propext
  constructor
  · intro h
    have : a.data.toList.length = a.size := by simp
    rw [h] at this
    exact this.symm
  · intro h; rw [size_zero h]

/-- The cells of element i of a slice of structs. -/
theorem Rd.at_enc {base : Nat} {T : TypeId} {w : World} {α : Type} {enc : α → List Value} {k n c : Nat} {A : Option Addr} {l : List α} (h : Rd base T w k A n c (l.flatMap enc)) (hk : ∀ x, (enc x).length = k) (h0 : 0 < k) {i : Nat} (hi : i < n) :
    ∃ b off, A = some ⟨b, off, none⟩ ∧ b < w.heap.size ∧ ∃ hl : i < l.length, ∀ j v, (enc l[i])[j]? = some v → w.cell? ⟨b, off + i * k + j, none⟩ = some v := by
  have hlen := h.count hk h0
  obtain ⟨b, off, e, hb, hc⟩ := h.elem hi
  have hil : i < l.length := by omega
  refine ⟨b, off, e, hb, hil, fun j v hj => ?_⟩
  have hjk : j < k := by
    have := (List.getElem?_eq_some_iff.1 hj).1
    rw [hk] at this
    exact this
  rw [hc j hjk, flat_get enc k hk l i j hil hjk]
  exact hj
/-- Loading element i whole. -/
theorem Rd.load {base : Nat} {T : TypeId} {w : World} {α : Type} {enc : α → List Value} {k n c : Nat} {A : Option Addr} {l : List α} (h : Rd base T w k A n c (l.flatMap enc)) (hk : ∀ x, (enc x).length = k) (h0 : 0 < k) {i : Nat} (hi : i < n) (P : Program) :
    ∃ b off, A = some ⟨b, off, none⟩ ∧ b < w.heap.size ∧ ∃ hl : i < l.length, Sem.run P (loadCellsFrom ⟨b, off + i * k, none⟩ 0 k #[]) w = .ok (enc l[i]).toArray w := by
  obtain ⟨b, off, e, hb, hl, hc⟩ := h.at_enc hk h0 hi
  exact ⟨b, off, e, hb, hl, run_load_list P w _ _ k (hk _) fun j v hj => by rw [add_lit']; exact hc j v hj⟩
/-- The place of the first that p holds of; -1. -/
def fidx {α : Type} (p : α → Bool) (l : List α) : Int := if l.any p then (l.findIdx p : Nat) else -1
theorem fidx_hit {α : Type} (p : α → Bool) (l : List α) (i : Nat) (hi : i < l.length) (h : p l[i] = true) (hb : ∀ j (hj : j < l.length), j < i → p l[j] = false) : fidx p l = i := by
  have h1 : l.any p = true := List.any_eq_true.2 ⟨_, List.getElem_mem hi, h⟩
  unfold fidx
  rw [if_pos h1]
  have : l.findIdx p = i := by
    rw [List.findIdx_eq hi]
    exact ⟨h, fun j hj => hb j (by omega) hj⟩
  rw [this]
theorem fidx_miss {α : Type} (p : α → Bool) (l : List α) (h : ∀ j (hj : j < l.length), p l[j] = false) : fidx p l = -1 := by
  have h1 : l.any p = false := by
    rw [List.any_eq_false]
    intro x hx
    obtain ⟨t, ht, rfl⟩ := List.getElem_of_mem hx
    rw [h t ht]
    simp
  unfold fidx
  rw [h1]
  rfl
theorem own_ist {w : World} {b e k n : Nat} {v : Value} {xs : List Value} (h : w.ownsRow b e k v n xs) : ∀ j, v.ownBlock = some j → IsT w j e ∧ b ≤ j := by
  intro j hj
  rcases h.2 with ⟨rfl, _⟩ | ⟨g, cap, cur, rfl, hb, hgg, rest⟩
  · simp [Value.ownBlock] at hj
  · simp [Value.ownBlock] at hj
    subst hj
    exact ⟨⟨_, _, hgg⟩, hb⟩
theorem IsT.ne {w : World} {j i : Nat} {T U : TypeId} (h : IsT w j T) (k : IsT w i U) (hne : T ≠ U) : j ≠ i := by
  rintro rfl
  obtain ⟨cs, fr, e⟩ := h
  obtain ⟨cs', fr', e'⟩ := k
  rw [e] at e'
  injection e' with e'
  injection e' with _ e'
  exact hne e'
section
variable {base T U B e : Nat} {w w' : World} {row : Option Nat}
theorem Rd.grownR {k n c : Nat} {A : Option Addr} {xs : List Value} (h : Rd base T w k A n c xs) (hg : w.grownBy w' row) (hr : ∀ j, row = some j → IsT w j U ∧ base ≤ j) (hU : U ≠ T) : Rd base T w' k A n c xs :=
  h.keep hg.size fun b hs => hg.block b hs.lt (by
    intro e
    obtain ⟨⟨cs, fr, hc⟩, hb⟩ := hr b e.symm
    exact hs.ne hc hU hb rfl)
theorem own_grownR {k n : Nat} {v : Value} {xs : List Value} (h : w.ownsRow B e k v n xs) (hg : w.grownBy w' row) (hr : ∀ j, row = some j → IsT w j U) (hU : U ≠ e) : w'.ownsRow B e k v n xs := by
  refine h.kept hg ?_
  cases hv : v.ownBlock with
  | none => exact .inl rfl
  | some j =>
    refine .inr fun e => ?_
    exact ((own_ist h j hv).1.ne (hr j e.symm) hU.symm) rfl
end
/-- The table stays when another row is turned, though it has the type of rows. -/
theorem Rd.keepA {base T k n c : Nat} {w w' : World} {A : Option Addr} {xs : List Value} (h : Rd base T w k A n c xs) (hs : w.heap.size ≤ w'.heap.size) (hk : ∀ a, A = some a → a.block < w.heap.size → w'.heap[a.block]? = w.heap[a.block]?) : Rd base T w' k A n c xs :=
  ⟨h.len, h.cap, h.nil, fun hn => by
    obtain ⟨b, off, e, hb, hc⟩ := h.at_ hn
    have := hk _ e hb.lt
    exact ⟨b, off, e, hb.keep hs this, fun j u hu => (World.cell?_of_block (w := w) (a := ⟨b, off + j, none⟩) this).trans (hc j u hu)⟩⟩
theorem Rd.one_ {α : Type} {enc : α → List Value} {base T k n c : Nat} {w : World} {b off : Nat} {l : List α} (h : Rd base T w k (some ⟨b, off, none⟩) n c (l.flatMap enc)) (hk : ∀ x, (enc x).length = k) {i : Nat} (hi : i < n) (hl : i < l.length) :
    Rd base T w k (some ⟨b, off + i * k, none⟩) 1 (c - i) (enc l[i]) := by
  have hc := h.cap
  have := h.cut (lo := i) (hi := i + 1) (c' := c) (by omega) (by omega) (by omega) (Nat.le_refl _)
  rw [if_neg (by omega), show i + 1 - i = 1 by omega, flat_drop enc k hk, flat_take enc k hk, List.drop_eq_getElem_cons hl, List.take_succ_cons, List.take_zero] at this
  simpa [add_lit'] using this
theorem Rd.keepO {base own T k n c m q : Nat} {w w' : World} {A : Option Addr} {xs zs : List Value} {v : Value} (h : Rd base T w k A n c xs) (hO : w.ownsRow own T q v m zs) (hg : w.grownBy w' v.ownBlock) (ha : ∀ a, A = some a → ∀ j, v.ownBlock = some j → a.block ≠ j) : Rd base T w' k A n c xs :=
  h.keepA hg.size fun a e hl => hg.block _ hl (fun e2 => ha a e _ e2.symm rfl)
theorem Rd.growT {base own m T U k n c q : Nat} {w w' : World} {A : Option Addr} {xs zs : List Value} {v : Value} (h : Rd base T w k A n c xs) (hO : w.ownsRow own U q v m zs) (hg : w.grownBy w' v.ownBlock) (hU : U ≠ T) (hb : base ≤ own) : Rd base T w' k A n c xs :=
  h.grownR hg (fun j hj => ⟨(own_ist hO j hj).1, Nat.le_trans hb (own_ist hO j hj).2⟩) hU

structure SpanR where
  from_ : ByteArray
  to_ : ByteArray
def SpanR.enc (s : SpanR) : List Value := [.string s.from_, .string s.to_]
instance : DecidableEq SpanR := fun a b => by
  rcases a with ⟨f, t⟩
  rcases b with ⟨f', t'⟩
  exact if h : f = f' ∧ t = t' then .isTrue (by obtain ⟨rfl, rfl⟩ := h; rfl) else .isFalse (fun e => h (by injection e with e1 e2; exact ⟨e1, e2⟩))
theorem elt_span : Elt Try.prog 22 35 2 32 := Elt.mk' Try.underlying22 (z := .agg #[.string ⟨#[]⟩, .string ⟨#[]⟩]) (by kernel_rfl) rfl (by omega)
def sCells (l : List SpanR) : List Value := l.flatMap SpanR.enc
theorem span_one (l : List SpanR) : ∀ u ∈ sCells l, u.oneCell' = true := by
  intro u hu
  unfold sCells at hu
  obtain ⟨r, _, hr⟩ := List.mem_flatMap.1 hu
  simp only [SpanR.enc, List.mem_cons, List.not_mem_nil, or_false] at hr
  rcases hr with rfl | rfl <;> rfl
end Go.Proofs.Ytkjopeiohjkhoaa

/- Words: what stays when a map of the call's own is written. -/
import Derived.Test.YtehfaeafefkngaaTm
set_option linter.unusedVariables false
set_option linter.unusedSimpArgs false
namespace Go.Proofs.Ytehfaeafefkngaa
open Go.RowKit Go.Maps

def IsMapAt (w : World) (b : Nat) : Prop := ∃ es clock, w.heap[b]? = some (.map es clock)
theorem Stamps.isMap {w : World} {b n : Nat} {l : List Rw} (h : Stamps w b n l) : IsMapAt w b := by
  obtain ⟨D, ⟨es, clock, hb, _⟩, _⟩ := h
  exact ⟨es, clock, hb⟩
theorem Stamps.kept {w w' : World} {b n : Nat} {row : Option Nat} {l : List Rw} (h : Stamps w b n l) (hg : w.grownBy w' row) (hne : some b ≠ row) : Stamps w' b n l := by
  obtain ⟨D, h, hR⟩ := h
  exact ⟨D, h.kept hg hne, hR⟩
theorem Stamps.below {w w' : World} {b n : Nat} {l : List Rw} (h : Stamps w b n l) (hb : Below w.heap.size w w') : Stamps w' b n l := h.kept (gb_below hb none) (by simp)
theorem Stamps.mono {w : World} {b n n' : Nat} {l : List Rw} (h : Stamps w b n l) (hn : n ≤ n') : Stamps w b n' l := by
  obtain ⟨D, h, hR⟩ := h
  exact ⟨D, h.mono hn, hR⟩
theorem Rd.mapped {base T : Nat} {w w' : World} {k n c mb : Nat} {A : Option Addr} {xs : List Value} (h : Rd base T w k A n c xs) (hg : w.grownBy w' (some mb)) (hm : IsMapAt w mb) (hge : base ≤ mb) : Rd base T w' k A n c xs :=
  h.keep hg.size fun b hs => hg.block b hs.lt (by
    intro e
    injection e with e
    subst e
    obtain ⟨es, clock, hm⟩ := hm
    rcases hs.2 with h1 | ⟨cs, fr, h1⟩
    · omega
    · rw [hm] at h1
      cases h1)
theorem Tab.mapped {base g c mb : Nat} {w w' : World} {l : List Rw} {A : Option Addr} (h : Tab base w g l A c) (hg : w.grownBy w' (some mb)) (hm : IsMapAt w mb) (hge : base ≤ mb) : Tab base w' g l A c := by
  refine ⟨(hg.block g h.lt ?_).trans h.blk, h.ge, h.rd.mapped hg hm hge, h.srt, h.big, fun a ha => Nat.lt_of_lt_of_le (h.old a ha) hg.size⟩
  intro e
  injection e with e
  subst e
  obtain ⟨es, clock, hm⟩ := hm
  rw [h.blk] at hm
  cases hm
theorem opOk_key {x : OpR} (h : opOk x = true) (h1 : 1 ≤ x.kind) (h4 : x.kind ≤ 4) : 1 ≤ x.key.size ∧ x.key.size ≤ 64 := by
  have : keyOk x.key = true := by
    unfold opOk at h
    split at h
    · simp only [Bool.and_eq_true] at h; exact h.1.1.1.1.1
    · split at h
      · simp only [Bool.and_eq_true] at h; exact h.1.1.1.1
      · split at h
        · simp only [Bool.and_eq_true] at h; exact h.1.1.1.1
        · exfalso; omega
  simp [keyOk] at this
  omega
theorem opOk_stamp {x : OpR} (h : opOk x = true) (h1 : 1 ≤ x.kind) (h4 : x.kind ≤ 3) : 1 ≤ x.stamp ∧ x.stamp ≤ 1099511627776 := by
  have : numOk x.stamp 1 = true := by
    unfold opOk at h
    split at h
    · simp only [Bool.and_eq_true] at h; exact h.1.1.2
    · split at h
      · simp only [Bool.and_eq_true] at h; exact h.1.2
      · exfalso; omega
  simp [numOk] at this
  omega
theorem wr_kinds {x : OpR} (h : (decide (1 ≤ x.kind) && decide (x.kind ≤ 4)) = true) : 1 ≤ x.kind ∧ x.kind ≤ 4 := by simpa using h
end Go.Proofs.Ytehfaeafefkngaa

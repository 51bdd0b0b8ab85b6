/- A call of both tables: words. -/
import Derived.Test.YtehfaeafefkngaaV12
import Derived.Test.YtehfaeafefkngaaTr
import Derived.Test.YtehfaeafefkngaaTt5
set_option linter.unusedVariables false
set_option linter.unusedSimpArgs false
namespace Go.Proofs.Ytehfaeafefkngaa
open Go.RowKit

/-- A call, as it is asked. -/
structure ActR where
  kind : Int
  q : RSl
  ops : List OpR
  s : SpanR
  p : RSl
  rows : List Rw
def ActR.cs (a : ActR) : List Value := [.int .i64 a.kind, .slice a.q.A a.q.n a.q.c, .string a.s.from_, .string a.s.to_, .slice a.p.A a.p.n a.p.c]
structure ActIn (base : Nat) (w : World) (a : ActR) : Prop where
  ops : Rd base 28 w 6 a.q.A a.q.n a.q.c (opCells a.ops)
  fits : ∀ x ∈ a.ops, Fits x
  big : a.q.n * 64 ≤ 140737488351232
  rows : Rd base 53 w 3 a.p.A a.p.n a.p.c (rowCells a.rows)
/-- All that was there stays, but for two blocks. -/
structure Kept2 (g gr : Nat) (w w' : World) : Prop where
  os : w'.os = w.os
  tape : w'.tape = w.tape
  output : w'.output = w.output
  size : w.heap.size ≤ w'.heap.size
  block : ∀ k : Nat, k < w.heap.size → k ≠ g → k ≠ gr → w'.heap[k]? = w.heap[k]?
theorem Kept2.refl (g gr : Nat) (w : World) : Kept2 g gr w w := ⟨rfl, rfl, rfl, Nat.le_refl _, fun _ _ _ _ => rfl⟩
theorem Kept2.trans {g gr : Nat} {w w' w2 : World} (h : Kept2 g gr w w') (k : Kept2 g gr w' w2) : Kept2 g gr w w2 :=
  ⟨k.os.trans h.os, k.tape.trans h.tape, k.output.trans h.output, Nat.le_trans h.size k.size, fun i hi h1 h2 => (k.block i (Nat.lt_of_lt_of_le hi h.size) h1 h2).trans (h.block i hi h1 h2)⟩
theorem Kept2.below {g gr : Nat} {w w' w2 : World} (h : Kept2 g gr w w') (k : Below w'.heap.size w' w2) : Kept2 g gr w w2 :=
  ⟨k.os.trans h.os, k.tape.trans h.tape, k.output.trans h.output, Nat.le_trans h.size k.size, fun i hi h1 h2 => (k.block i (Nat.lt_of_lt_of_le hi h.size)).trans (h.block i hi h1 h2)⟩
theorem Kept2.grown {g gr : Nat} {w w' w2 : World} (h : Kept2 g gr w w') {j : Nat} (k : w'.grownBy w2 (some j)) (hj : j = g ∨ j = gr) : Kept2 g gr w w2 :=
  ⟨k.os.trans h.os, k.tape.trans h.tape, k.output.trans h.output, Nat.le_trans h.size k.size, fun i hi h1 h2 => (k.block i (Nat.lt_of_lt_of_le hi h.size) (fun e => by injection e with e; rcases hj with rfl | rfl; exact h1 e; exact h2 e)).trans (h.block i hi h1 h2)⟩
theorem Kept2.spr {g gr : Nat} {w w' w2 : World} (h : Kept2 g gr w w') {B : Option Addr} (s : SpR B w' w2) (hB : ∀ b, B = some b → w.heap.size ≤ b.block) : Kept2 g gr w w2 :=
  ⟨s.os.trans h.os, s.tape.trans h.tape, s.output.trans h.output, by rw [s.size]; exact h.size, fun i hi h1 h2 => (s.block i (fun a ha e => by have := hB a ha; omega)).trans (h.block i hi h1 h2)⟩
theorem Kept2.sps {g gr : Nat} {w w' w2 : World} (h : Kept2 g gr w w') {B : Option Addr} {rr : List RRes} (s : SpS B rr w' w2) (hB : ∀ b, B = some b → w.heap.size ≤ b.block) (hr : ∀ q ∈ rr, ∀ b, q.A = some b → w.heap.size ≤ b.block) : Kept2 g gr w w2 :=
  ⟨s.os.trans h.os, s.tape.trans h.tape, s.output.trans h.output, by rw [s.size]; exact h.size, fun i hi h1 h2 => (s.block i (fun a ha e => by have := hB a ha; omega) (fun q hq a ha e => by have := hr q hq a ha; omega)).trans (h.block i hi h1 h2)⟩
theorem Rd.keepN {base T k n c : Nat} {w w' : World} {A : Option Addr} {xs : List Value} (h : Rd base T w k A n c xs) (hs : w.heap.size ≤ w'.heap.size) (hk : ∀ a, A = some a → Stay base T w a.block → w'.heap[a.block]? = w.heap[a.block]?) : Rd base T w' k A n c xs :=
  ⟨h.len, h.cap, h.nil, fun hn => by
    obtain ⟨b, off, e, hb, hc⟩ := h.at_ hn
    have hk : w'.heap[b]? = w.heap[b]? := hk ⟨b, off, none⟩ e hb
    exact ⟨b, off, e, hb.keep hs hk, fun j u hu => (World.cell?_of_block (w := w) (a := ⟨b, off + j, none⟩) hk).trans (hc j u hu)⟩⟩
section
variable {base g c : Nat} {w w' : World} {l : List Rw} {A B : Option Addr} {rr : List RRes}
theorem Rd.spr {k n c : Nat} {xs : List Value} (h : Rd base 53 w k A n c xs) (s : SpR B w w') (hne : ∀ a b, A = some a → B = some b → a.block ≠ b.block) : Rd base 53 w' k A n c xs :=
  h.keepN (by rw [s.size]; exact Nat.le_refl _) fun a ha _ => s.block _ (fun b hb e => hne a b ha hb e.symm)
theorem Rd.sps {k n c : Nat} {xs : List Value} (h : Rd base 53 w k A n c xs) (s : SpS B rr w w') (hB : ∀ b, B = some b → IsT w b.block 39 ∧ base ≤ b.block) (hne : NeR A rr) : Rd base 53 w' k A n c xs :=
  h.keepN (by rw [s.size]; exact Nat.le_refl _) fun a ha hst => s.block _ (fun b hb e => by
    obtain ⟨hT, hge⟩ := hB b hb
    obtain ⟨cs, fr, hc⟩ := hT
    exact hst.ne hc (by decide) hge e.symm) (fun q hq b hb => hne q hq b a hb ha)
theorem Tab.spr (h : Tab base w g l A c) (s : SpR B w w') (hB : ∀ b, B = some b → IsT w b.block 53) (hne : ∀ a b, A = some a → B = some b → a.block ≠ b.block) : Tab base w' g l A c :=
  ⟨(s.block g (fun b hb => IsT.ne (hB b hb) ⟨_, _, h.blk⟩ (by decide))).trans h.blk, h.ge, h.rd.spr s hne, h.srt, h.big, by rw [s.size]; exact h.old⟩
theorem RTab.spr (h : RTab base w g l A c) (s : SpR B w w') (hB : ∀ b, B = some b → IsT w b.block 53) (hne : ∀ a b, A = some a → B = some b → a.block ≠ b.block) : RTab base w' g l A c :=
  ⟨(s.block g (fun b hb => IsT.ne (hB b hb) ⟨_, _, h.blk⟩ (by decide))).trans h.blk, h.ge, h.rd.spr s hne, h.srt, h.big, by rw [s.size]; exact h.old⟩
theorem Tab.sps (h : Tab base w g l A c) (s : SpS B rr w w') (hB : ∀ b, B = some b → IsT w b.block 39 ∧ base ≤ b.block) (hR : ∀ q ∈ rr, ∀ b, q.A = some b → IsT w b.block 53) (hne : NeR A rr) : Tab base w' g l A c :=
  ⟨(s.block g (fun b hb => IsT.ne (hB b hb).1 ⟨_, _, h.blk⟩ (by decide)) (fun q hq b hb => IsT.ne (hR q hq b hb) ⟨_, _, h.blk⟩ (by decide))).trans h.blk, h.ge, h.rd.sps s hB hne, h.srt, h.big, by rw [s.size]; exact h.old⟩
theorem RTab.sps (h : RTab base w g l A c) (s : SpS B rr w w') (hB : ∀ b, B = some b → IsT w b.block 39 ∧ base ≤ b.block) (hR : ∀ q ∈ rr, ∀ b, q.A = some b → IsT w b.block 53) (hne : NeR A rr) : RTab base w' g l A c :=
  ⟨(s.block g (fun b hb => IsT.ne (hB b hb).1 ⟨_, _, h.blk⟩ (by decide)) (fun q hq b hb => IsT.ne (hR q hq b hb) ⟨_, _, h.blk⟩ (by decide))).trans h.blk, h.ge, h.rd.sps s hB hne, h.srt, h.big, by rw [s.size]; exact h.old⟩
end
theorem own_isT {w : World} {b T k n c : Nat} {A : Option Addr} {m : Nat} {xs : List Value} (h : w.ownsRow b T k (.slice A n c) m xs) : ∀ a, A = some a → IsT w a.block T ∧ b ≤ a.block := fun a ha => own_ist h a.block (by rw [ha]; rfl)
theorem RMs.isT {base B : Nat} {w : World} {rr : List RRes} {rs : List Res} (h : RMs base B w rr rs) : ∀ q ∈ rr, ∀ b, q.A = some b → IsT w b.block 53 := by
  intro q hq b hb
  obtain ⟨i, hi, rfl⟩ := List.mem_iff_getElem.1 hq
  exact (own_isT (All2.at_ h i hi (by rw [← All2.len h]; exact hi)).own b hb).1
theorem NeR.of {w2 : World} {A A' : Option Addr} {rr : List RRes} {lo : Nat} (hA : ∀ a, A = some a → a.block < lo) (hlo : ∀ q ∈ rr, ∀ b, q.A = some b → lo ≤ b.block ∧ b.block < w2.heap.size) (hf : Fr w2 A A') : NeR A' rr := by
  intro q hq b a hb ha
  have h1 := hlo q hq b hb
  rcases hf with rfl | hf
  · have := hA a ha; omega
  · have := hf a ha; omega
/-- What a call does to the rows. -/
def stepP (l : List Rw) (a : ActR) : List Rw :=
  if amongP a.kind 4 = 0 then (doP l a.ops).rows else if amongP a.kind 4 = 1 then l else if amongP a.kind 4 = 2 then (takeP l a.rows).2 else dropP l a.s
def StepPost (base : Nat) (w : World) (g gr : Nat) (l' : List Rw) (e : Ending) (w' : World) : Prop :=
  e = .returned (.bool true) ∧ Kept2 g gr w w' ∧ (∃ A c, Tab base w' g l' A c) ∧ (∃ A c, RTab base w' gr l' A c)
end Go.Proofs.Ytehfaeafefkngaa

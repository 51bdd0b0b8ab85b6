/- One operation of a table: the kinds that write. -/
import Derived.Test.YtlhjfblpinpjiaaTb7w
set_option linter.unusedVariables false
set_option linter.unusedSimpArgs false
namespace Go.Proofs.Ytlhjfblpinpjiaa
open Go.RowKit

set_option maxHeartbeats 4000000 in
set_option maxRecDepth 100000 in
theorem onew_calls {base g c : Nat} {w : World} {l : List Rw} {A : Option Addr} (h : Tab base w g l A c) (x : OpR) (hv : x.val.size ≤ 9223372036854775807) (h4 : x.kind ≠ 4) (h5 : x.kind ≠ 5) (h6 : x.kind ≠ 6) :
    Calls Try.prog 43 #[.pointer (some ⟨g, 0, none⟩), .agg x.enc.toArray] w (OnePost base w A g (oneP l x)) := by
  obtain ⟨kind, key, val, stamp, test, most⟩ := x
  simp only at hv h4 h5 h6
  generalize hp : oneP l ⟨kind, key, val, stamp, test, most⟩ = p
  have P := Asd.mk hp
  clear hp
  have hwr := fun (W : World) (hb : Below w.heap.size w W) => write_calls (h.below hb) ⟨kind, key, val, stamp, test, most⟩ hv
  have WR := Asd.mk hwr
  clear hwr
  unfold OpR.enc at *
  have H := Asd.mk h
  have hat := fun (W : World) (hb : Below w.heap.size w W) => at_calls (h.below hb) key
  have AT := Asd.mk hat
  have hgl := h.lt
  clear h hat
  have hone : oneP l ⟨kind, key, val, stamp, test, most⟩ = writeP l ⟨kind, key, val, stamp, test, most⟩ := by simp [oneP, h4, h5, h6]
  rw [hone] at P
  have RO := Asd.mk (show (writeP l ⟨kind, key, val, stamp, test, most⟩).2.rows = [] by unfold writeP; dsimp only; repeat (first | rfl | split))
  rw [P.out] at RO
  clear hone
  have k4 : (kind == 4) = false := by simpa using h4
  have k5 : (kind == 5) = false := by simpa using h5
  have k6 : (kind == 6) = false := by simpa using h6
  have PW := Asd.mk (P.out)
  rw [P.out] at WR
  clear P
  go_enter Try.func43, Try.ntmps43
  go_wp2_with fail
  refine (AT.out _ (((Below.refl _ _).alloc (Nat.le_refl _) _).alloc (by simp) _)).mono ?_
  rintro e w1 ⟨rfl, hb1⟩
  obtain ⟨hc1, hf1⟩ := bcell hb1
  have hs1 : w.heap.size + 1 < w1.heap.size := by have := hb1.size; simp at this; omega
  have hs0 : w.heap.size < w1.heap.size := by omega
  have hB : Below w.heap.size w w1 := (((Below.refl _ _).alloc (Nat.le_refl _) _).alloc (by simp) _).trans (hb1.mono (by simp; omega))
  have hres : IsT w1 (w.heap.size + 1) 47 := ⟨_, _, (hb1.block _ (by simp)).trans (by simpa using heap_alloc_new (w.alloc _) _)⟩
  have RES := Asd.mk hres
  clear hres
  have BB := Asd.mk hB
  clear hB hb1
  go_wp2_with fail
  refine (WR.out _ BB.out).mono ?_
  rintro e w3 ⟨rfl, hg3, hT3⟩
  have hn1 : w.heap.size ≠ g := by omega
  have hn2 : w.heap.size + 1 ≠ g := by omega
  have hblk : ∀ b, b < w1.heap.size → b ≠ g → w3.heap[b]? = w1.heap[b]? := fun b hb hne => hg3.block b hb (by simpa using hne)
  have hc3 : ∀ b o, b < w1.heap.size → b ≠ g → w3.cell? ⟨b, o, none⟩ = w1.cell? ⟨b, o, none⟩ := fun b o hb hne => World.cell?_of_block (w := w1) (hblk b hb hne)
  have hf3 : ∀ b o, b < w1.heap.size → b ≠ g → w3.frozen? ⟨b, o, none⟩ = w1.frozen? ⟨b, o, none⟩ := fun b o hb hne => World.frozen?_of_block (w := w1) (hblk b hb hne)
  have hs3 : w.heap.size + 1 < w3.heap.size := by have := hg3.size; omega
  have RE3 := Asd.mk (RES.out.of_block (hblk _ hs1 hn2))
  have G3 := Asd.mk (gb_trans (gb_below BB.out _) hg3)
  have T3 := Asd.mk hT3
  clear hg3 hT3 hblk
  obtain ⟨l', code, st, v, rows⟩ := p
  obtain rfl : rows = [] := RO.out
  unfold Res.flat
  go_wp2_with fail
  refine bodyPost_ret (v := Res.flat ⟨code, st, v, []⟩) (by simp [results, Try.results43, go_sem, Res.flat, hc1, hc3, hs0, hs1, hs3, hn1, hn2]) rfl ?_
  obtain ⟨A3, c3, T4, fr4⟩ := T3.out
  refine OnePost.flat rfl rfl ?_ ⟨A3, c3, ?_, Fr.mono fr4 (by have := BB.out.size; omega)⟩
  · repeat (first | exact G3.out | refine gb_set ?_ (by simp) _)
  · exact Tab.set4 T4 RE3.out (by decide) (by decide) (by have := H.out.ge; omega) _ _ _ _

end Go.Proofs.Ytlhjfblpinpjiaa

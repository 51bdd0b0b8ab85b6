/- The document's table: an operation that changes, one that writes. -/
import Derived.Test.YtlhjfblpinpjiaaV3
set_option linter.unusedVariables false
set_option linter.unusedSimpArgs false
namespace Go.Proofs.Ytlhjfblpinpjiaa
open Go.RowKit

def changeP (l : List Rw) (x : OpR) (s : Int) : List Rw × Res :=
  if (x.test ≠ 0 ∧ x.test ≠ s) ∨ x.stamp ≤ s then (l, .fail 92 s) else if (4096 : Int) < x.val.size then (l, .fail 93 0) else (putL l ⟨x.key, x.stamp, x.val⟩, .fail 0 x.stamp)

set_option maxHeartbeats 8000000 in
set_option maxRecDepth 100000 in
theorem Rchange_calls {base g c : Nat} {w : World} {l : List Rw} {A : Option Addr} (h : RTab base w g l A c) (x : OpR) (hv : x.val.size ≤ 9223372036854775807) (hth : there x.key l = true) (wk wv : ByteArray) (s : Int) :
    Calls Try.prog 81 #[.pointer (some ⟨g, 0, none⟩), .agg x.enc.toArray, .agg #[.string wk, .int .i64 s, .string wv]] w (RWritePost base w A g (changeP l x s)) := by
  obtain ⟨kind, key, val, stamp, test, most⟩ := x
  simp only at hv hth
  generalize hp : changeP l ⟨kind, key, val, stamp, test, most⟩ s = p
  have P := Asd.mk hp
  clear hp
  unfold OpR.enc
  have H := Asd.mk h
  have hc := h.cell
  have hgl := h.lt
  have hl4 := h.big
  have TH := Asd.mk hth
  clear h hth
  by_cases h1 : test ≠ 0 ∧ test ≠ s
  · have q1 : (test == 0) = false := by simpa using h1.1
    have q1' : (test != 0) = true := by simpa using h1.1
    have q2 : (test == s) = false := by simpa using h1.2
    have q2' : (test != s) = true := by simpa using h1.2
    have H1 := Asd.mk h1
    clear h1
    go_enter Try.func81, Try.ntmps81
    go_wp2_with fail
    refine bodyPost_ret (v := (Res.fail 92 s).flat) (by simp [results, Try.results81, go_sem, Res.flat, Res.fail]) rfl ?_
    rw [← P.out, show changeP l _ _ = (l, Res.fail 92 s) from by simp only [changeP]; rw [if_pos (.inl H1.out)]]
    refine RWritePost.same H.out ?_ rfl
    repeat (first | exact Below.refl _ _ | refine Below.setCell ?_ (by simp <;> omega) _ | refine Below.alloc ?_ (by simp <;> omega) _)
  · by_cases h0 : test = 0
    · subst h0
      clear h1
      by_cases h2 : stamp ≤ s
      · have hs2 : decide (stamp ≤ s) = true := decide_eq_true h2
        go_enter Try.func81, Try.ntmps81
        go_wp2_with fail
        refine bodyPost_ret (v := (Res.fail 92 s).flat) (by simp [results, Try.results81, go_sem, Res.flat, Res.fail]) rfl ?_
        rw [← P.out, show changeP l _ _ = (l, Res.fail 92 s) from by simp only [changeP]; rw [if_pos (.inr h2)]]
        refine RWritePost.same H.out ?_ rfl
        repeat (first | exact Below.refl _ _ | refine Below.setCell ?_ (by simp <;> omega) _ | refine Below.alloc ?_ (by simp <;> omega) _)
      · have hs2 : decide (stamp ≤ s) = false := decide_eq_false h2
        have H2 := Asd.mk h2
        by_cases h3 : (4096 : Int) < val.size
        · go_enter Try.func81, Try.ntmps81
          go_wp2_with fail
          refine bodyPost_ret (v := (Res.fail 93 0).flat) (by simp [results, Try.results81, go_sem, Res.flat, Res.fail]) rfl ?_
          rw [← P.out, show changeP l _ _ = (l, Res.fail 93 0) from by simp only [changeP]; rw [if_neg (by have := H2.out; omega), if_pos (by omega)]]
          refine RWritePost.same H.out ?_ rfl
          repeat (first | exact Below.refl _ _ | refine Below.setCell ?_ (by simp <;> omega) _ | refine Below.alloc ?_ (by simp <;> omega) _)
        · skip
          have PC : Asd (∀ W, Below w.heap.size w W → Calls Try.prog 84 #[.pointer (some ⟨g, 0, none⟩), .agg #[.string key, .int .i64 stamp, .string val]] W (RPutPost base W A g (putL l ⟨key, stamp, val⟩))) := ⟨fun W hW => Rput_calls (H.out.below hW) ⟨key, stamp, val⟩ (by rw [putL_len H.out.srt, if_pos TH.out]; omega)⟩
          go_enter Try.func81, Try.ntmps81
          go_wp2_with fail
          have hB : Below w.heap.size w (((w.alloc (.cells #[.int .i64 kind, .string key, .string val, .int .i64 stamp, .int .i64 0, .int .i64 most] 64)).alloc (.cells #[.string wk, .int .i64 s, .string wv] 86)).alloc (.cells #[.int .i64 0, .int .i64 0, .string ⟨#[]⟩, .slice none 0 0] 47)) := (((Below.refl _ _).alloc (Nat.le_refl _) _).alloc (by simp) _).alloc (by simp; omega) _
          refine (PC.out _ hB).mono ?_
          rintro e w3 ⟨rfl, hg3, A3, c3, hT3, hfr3⟩
          have hs3 : w.heap.size + 2 < w3.heap.size := by have := hg3.size; simp at this; omega
          have hs0 : w.heap.size < w3.heap.size := by omega
          have hn1 : w.heap.size ≠ g := by omega
          have hn2 : w.heap.size + 2 ≠ g := by omega
          have k1 := gb_keep hg3 (b := w.heap.size) (by simp; omega) hn1
          have k2 := gb_keep hg3 (b := w.heap.size + 2) (by simp) hn2
          have e0 : (((w.alloc (.cells #[.int .i64 kind, .string key, .string val, .int .i64 stamp, .int .i64 0, .int .i64 most] 64)).alloc (.cells #[.string wk, .int .i64 s, .string wv] 86)).alloc (.cells #[.int .i64 0, .int .i64 0, .string ⟨#[]⟩, .slice none 0 0] 47)).heap[w.heap.size]? = some (.cells #[.int .i64 kind, .string key, .string val, .int .i64 stamp, .int .i64 0, .int .i64 most] 64 (0, 0)) := (Below.heap_alloc _ _ _ (by simp; omega)).trans ((Below.heap_alloc _ _ _ (by simp)).trans (heap_alloc_new w _))
          have e1 : (((w.alloc (.cells #[.int .i64 kind, .string key, .string val, .int .i64 stamp, .int .i64 0, .int .i64 most] 64)).alloc (.cells #[.string wk, .int .i64 s, .string wv] 86)).alloc (.cells #[.int .i64 0, .int .i64 0, .string ⟨#[]⟩, .slice none 0 0] 47)).heap[w.heap.size + 2]? = some (.cells #[.int .i64 0, .int .i64 0, .string ⟨#[]⟩, .slice none 0 0] 47 (0, 0)) := by simpa using heap_alloc_new ((w.alloc (.cells #[.int .i64 kind, .string key, .string val, .int .i64 stamp, .int .i64 0, .int .i64 most] 64)).alloc (.cells #[.string wk, .int .i64 s, .string wv] 86)) (.cells #[.int .i64 0, .int .i64 0, .string ⟨#[]⟩, .slice none 0 0] 47)
          have y3 : w3.cell? ⟨w.heap.size, 3, none⟩ = some (.int .i64 stamp) := cell_of_row _ _ 3 _ _ _ (k1.trans e0)
          have r0 : w3.cell? ⟨w.heap.size + 2, 0, none⟩ = some (.int .i64 0) := cell_of_row _ _ 0 _ _ _ (k2.trans e1)
          have r1 : w3.cell? ⟨w.heap.size + 2, 1, none⟩ = some (.int .i64 0) := cell_of_row _ _ 1 _ _ _ (k2.trans e1)
          have r2 : w3.cell? ⟨w.heap.size + 2, 2, none⟩ = some (.string ⟨#[]⟩) := cell_of_row _ _ 2 _ _ _ (k2.trans e1)
          have r3 : w3.cell? ⟨w.heap.size + 2, 3, none⟩ = some (.slice none 0 0) := cell_of_row _ _ 3 _ _ _ (k2.trans e1)
          have f0 : ∀ o, w3.frozen? ⟨w.heap.size + 2, o, none⟩ = false := fun o => frozen_of_row _ _ o _ _ (k2.trans e1)
          have RE3 : Asd (IsT w3 (w.heap.size + 2) 47) := ⟨_, _, k2.trans e1⟩
          have G3 : Asd (w.grownBy w3 (some g)) := ⟨gb_trans (gb_below hB _) hg3⟩
          have T3 := Asd.mk hT3
          have FR3 := Asd.mk (Fr.mono (w := w) hfr3 (by simp; omega))
          clear hg3 hT3 hfr3 k1 k2 e0 e1 hB
          go_wp2_with fail
          refine bodyPost_ret (v := (Res.fail 0 stamp).flat) (by simp [results, Try.results81, go_sem, Res.flat, Res.fail, r0, r1, r2, r3, hs0, hs3]) rfl ?_
          rw [← P.out, show changeP l _ _ = (putL l ⟨key, stamp, val⟩, Res.fail 0 stamp) from by simp only [changeP]; rw [if_neg (by have := H2.out; omega), if_neg (by omega)]]
          refine ⟨rfl, ?_, A3, c3, ?_, FR3.out⟩
          · repeat (first | exact G3.out | refine gb_set ?_ (by simp <;> omega) _)
          · exact RTab.set4 T3.out RE3.out (by decide) (by decide) (by have := H.out.ge; omega) _ _ _ _
    · have q1 : (test == 0) = false := by simpa using h0
      have q1' : (test != 0) = true := by simpa using h0
      have hts : s = test := by omega
      subst hts
      clear h1
      by_cases h2 : stamp ≤ s
      · have hs2 : decide (stamp ≤ s) = true := decide_eq_true h2
        go_enter Try.func81, Try.ntmps81
        go_wp2_with fail
        refine bodyPost_ret (v := (Res.fail 92 s).flat) (by simp [results, Try.results81, go_sem, Res.flat, Res.fail]) rfl ?_
        rw [← P.out, show changeP l _ _ = (l, Res.fail 92 s) from by simp only [changeP]; rw [if_pos (.inr h2)]]
        refine RWritePost.same H.out ?_ rfl
        repeat (first | exact Below.refl _ _ | refine Below.setCell ?_ (by simp <;> omega) _ | refine Below.alloc ?_ (by simp <;> omega) _)
      · have hs2 : decide (stamp ≤ s) = false := decide_eq_false h2
        have H2 := Asd.mk h2
        by_cases h3 : (4096 : Int) < val.size
        · go_enter Try.func81, Try.ntmps81
          go_wp2_with fail
          refine bodyPost_ret (v := (Res.fail 93 0).flat) (by simp [results, Try.results81, go_sem, Res.flat, Res.fail]) rfl ?_
          rw [← P.out, show changeP l _ _ = (l, Res.fail 93 0) from by simp only [changeP]; rw [if_neg (by have := H2.out; omega), if_pos (by omega)]]
          refine RWritePost.same H.out ?_ rfl
          repeat (first | exact Below.refl _ _ | refine Below.setCell ?_ (by simp <;> omega) _ | refine Below.alloc ?_ (by simp <;> omega) _)
        · skip
          have PC : Asd (∀ W, Below w.heap.size w W → Calls Try.prog 84 #[.pointer (some ⟨g, 0, none⟩), .agg #[.string key, .int .i64 stamp, .string val]] W (RPutPost base W A g (putL l ⟨key, stamp, val⟩))) := ⟨fun W hW => Rput_calls (H.out.below hW) ⟨key, stamp, val⟩ (by rw [putL_len H.out.srt, if_pos TH.out]; omega)⟩
          go_enter Try.func81, Try.ntmps81
          go_wp2_with fail
          have hB : Below w.heap.size w (((w.alloc (.cells #[.int .i64 kind, .string key, .string val, .int .i64 stamp, .int .i64 s, .int .i64 most] 64)).alloc (.cells #[.string wk, .int .i64 s, .string wv] 86)).alloc (.cells #[.int .i64 0, .int .i64 0, .string ⟨#[]⟩, .slice none 0 0] 47)) := (((Below.refl _ _).alloc (Nat.le_refl _) _).alloc (by simp) _).alloc (by simp; omega) _
          refine (PC.out _ hB).mono ?_
          rintro e w3 ⟨rfl, hg3, A3, c3, hT3, hfr3⟩
          have hs3 : w.heap.size + 2 < w3.heap.size := by have := hg3.size; simp at this; omega
          have hs0 : w.heap.size < w3.heap.size := by omega
          have hn1 : w.heap.size ≠ g := by omega
          have hn2 : w.heap.size + 2 ≠ g := by omega
          have k1 := gb_keep hg3 (b := w.heap.size) (by simp; omega) hn1
          have k2 := gb_keep hg3 (b := w.heap.size + 2) (by simp) hn2
          have e0 : (((w.alloc (.cells #[.int .i64 kind, .string key, .string val, .int .i64 stamp, .int .i64 s, .int .i64 most] 64)).alloc (.cells #[.string wk, .int .i64 s, .string wv] 86)).alloc (.cells #[.int .i64 0, .int .i64 0, .string ⟨#[]⟩, .slice none 0 0] 47)).heap[w.heap.size]? = some (.cells #[.int .i64 kind, .string key, .string val, .int .i64 stamp, .int .i64 s, .int .i64 most] 64 (0, 0)) := (Below.heap_alloc _ _ _ (by simp; omega)).trans ((Below.heap_alloc _ _ _ (by simp)).trans (heap_alloc_new w _))
          have e1 : (((w.alloc (.cells #[.int .i64 kind, .string key, .string val, .int .i64 stamp, .int .i64 s, .int .i64 most] 64)).alloc (.cells #[.string wk, .int .i64 s, .string wv] 86)).alloc (.cells #[.int .i64 0, .int .i64 0, .string ⟨#[]⟩, .slice none 0 0] 47)).heap[w.heap.size + 2]? = some (.cells #[.int .i64 0, .int .i64 0, .string ⟨#[]⟩, .slice none 0 0] 47 (0, 0)) := by simpa using heap_alloc_new ((w.alloc (.cells #[.int .i64 kind, .string key, .string val, .int .i64 stamp, .int .i64 s, .int .i64 most] 64)).alloc (.cells #[.string wk, .int .i64 s, .string wv] 86)) (.cells #[.int .i64 0, .int .i64 0, .string ⟨#[]⟩, .slice none 0 0] 47)
          have y3 : w3.cell? ⟨w.heap.size, 3, none⟩ = some (.int .i64 stamp) := cell_of_row _ _ 3 _ _ _ (k1.trans e0)
          have r0 : w3.cell? ⟨w.heap.size + 2, 0, none⟩ = some (.int .i64 0) := cell_of_row _ _ 0 _ _ _ (k2.trans e1)
          have r1 : w3.cell? ⟨w.heap.size + 2, 1, none⟩ = some (.int .i64 0) := cell_of_row _ _ 1 _ _ _ (k2.trans e1)
          have r2 : w3.cell? ⟨w.heap.size + 2, 2, none⟩ = some (.string ⟨#[]⟩) := cell_of_row _ _ 2 _ _ _ (k2.trans e1)
          have r3 : w3.cell? ⟨w.heap.size + 2, 3, none⟩ = some (.slice none 0 0) := cell_of_row _ _ 3 _ _ _ (k2.trans e1)
          have f0 : ∀ o, w3.frozen? ⟨w.heap.size + 2, o, none⟩ = false := fun o => frozen_of_row _ _ o _ _ (k2.trans e1)
          have RE3 : Asd (IsT w3 (w.heap.size + 2) 47) := ⟨_, _, k2.trans e1⟩
          have G3 : Asd (w.grownBy w3 (some g)) := ⟨gb_trans (gb_below hB _) hg3⟩
          have T3 := Asd.mk hT3
          have FR3 := Asd.mk (Fr.mono (w := w) hfr3 (by simp; omega))
          clear hg3 hT3 hfr3 k1 k2 e0 e1 hB
          go_wp2_with fail
          refine bodyPost_ret (v := (Res.fail 0 stamp).flat) (by simp [results, Try.results81, go_sem, Res.flat, Res.fail, r0, r1, r2, r3, hs0, hs3]) rfl ?_
          rw [← P.out, show changeP l _ _ = (putL l ⟨key, stamp, val⟩, Res.fail 0 stamp) from by simp only [changeP]; rw [if_neg (by have := H2.out; omega), if_neg (by omega)]]
          refine ⟨rfl, ?_, A3, c3, ?_, FR3.out⟩
          · repeat (first | exact G3.out | refine gb_set ?_ (by simp <;> omega) _)
          · exact RTab.set4 T3.out RE3.out (by decide) (by decide) (by have := H.out.ge; omega) _ _ _ _
end Go.Proofs.Ytlhjfblpinpjiaa

/- One operation of a table: kind 5. -/
import Derived.Test.YtlhjfblpinpjiaaTb7w
set_option linter.unusedVariables false
set_option linter.unusedSimpArgs false
namespace Go.Proofs.Ytlhjfblpinpjiaa
open Go.RowKit

set_option maxHeartbeats 8000000 in
set_option maxRecDepth 100000 in
theorem one5_calls {base g c : Nat} {w : World} {l : List Rw} {A : Option Addr} (h : Tab base w g l A c) (x : OpR) (hv : x.val.size ≤ 9223372036854775807) (h6 : x.kind = 5) :
    Calls Try.prog 43 #[.pointer (some ⟨g, 0, none⟩), .agg x.enc.toArray] w (OnePost base w A g (oneP l x)) := by
  obtain ⟨kind, key, val, stamp, test, most⟩ := x
  simp only at hv h6
  subst h6
  generalize hp : oneP l ⟨5, key, val, stamp, test, most⟩ = p
  have P := Asd.mk hp
  clear hp
  unfold OpR.enc at *
  have H := Asd.mk h
  have hat := fun (W : World) (hb : Below w.heap.size w W) => at_calls (h.below hb) key
  have AT := Asd.mk hat
  have hgl := h.lt
  clear h hat
  cases ht : there key l with
  | false =>
    have T := Asd.mk ht
    have RA := Asd.mk True.intro
    clear ht
    go_enter Try.func43, Try.ntmps43
    go_wp2_with fail
    refine (AT.out _ (((Below.refl _ _).alloc (Nat.le_refl _) _).alloc (by simp) _)).mono ?_
    rw [T.out]
    rintro e w1 ⟨rfl, hb1⟩
    obtain ⟨hc1, hf1⟩ := bcell hb1
    have hs1 : w.heap.size + 1 < w1.heap.size := by have := hb1.size; simp at this; omega
    have hs0 : w.heap.size < w1.heap.size := by omega
    have hB : Below w.heap.size w w1 := (((Below.refl _ _).alloc (Nat.le_refl _) _).alloc (by simp) _).trans (hb1.mono (by simp; omega))
    have hres : IsT w1 (w.heap.size + 1) 47 := ⟨_, _, (hb1.block _ (by simp)).trans (by simpa using heap_alloc_new (w.alloc _) _)⟩
    have RES := Asd.mk hres
    clear hres
    have TB := Asd.mk (H.out.below hB)
    have hcg := TB.out.cell
    have BB := Asd.mk hB
    clear hB hb1
    go_wp2_with fail
    refine (refused_calls _ _ _).mono ?_
    rintro e w2 ⟨rfl, hb2⟩
    have hw2 : Below w1.heap.size w1 w2 := by first | exact hb2 | exact ((Below.refl _ _).alloc (Nat.le_refl _) _).trans (hb2.mono (by simp))
    obtain ⟨hc2, hf2⟩ := bcell hw2
    have hs2 : w.heap.size + 1 < w2.heap.size := by have := hw2.size; omega
    have B2 := Asd.mk hw2
    clear hb2 hw2
    go_wp2_with fail
    refine bodyPost_ret (v := Res.flat ⟨91, 0, ⟨#[]⟩, []⟩) (by simp [results, Try.results43, go_sem, Res.flat, hc1, hc2, hs0, hs1, hs2]) rfl ?_
    rw [← P.out, show oneP l _ = (l, ⟨91, 0, ⟨#[]⟩, []⟩) from by simp [oneP, T.out, Res.fail, RA.out, ]]
    exact one_fin H.out (BB.out.trans (B2.out.mono (by omega))) (RES.out.of_block (B2.out.block _ hs1)) _ rfl _ _ _ _
  | true =>
    obtain ⟨hpl, hpk⟩ := pos_lt H.out.srt ht
    have T := Asd.mk ht
    have hpc : (pos key l : Int) < (l.length : Int) := by omega
    have wr : wrap64 ((pos key l : Int) + 1) = ((pos key l + 1 : Nat) : Int) := by have := H.out.big; unfold wrap64; omega
    have RA := Asd.mk (rowAt_eq hpl)
    generalize hs : l[pos key l] = r at RA
    have SS := Asd.mk hs
    clear hs hpk ht
    by_cases h4 : test = 0
    · subst h4
      go_enter Try.func43, Try.ntmps43
      go_wp2_with fail
      refine (AT.out _ (((Below.refl _ _).alloc (Nat.le_refl _) _).alloc (by simp) _)).mono ?_
      rw [T.out]
      rintro e w1 ⟨rfl, hb1⟩
      obtain ⟨hc1, hf1⟩ := bcell hb1
      have hs1 : w.heap.size + 1 < w1.heap.size := by have := hb1.size; simp at this; omega
      have hs0 : w.heap.size < w1.heap.size := by omega
      have hB : Below w.heap.size w w1 := (((Below.refl _ _).alloc (Nat.le_refl _) _).alloc (by simp) _).trans (hb1.mono (by simp; omega))
      have hres : IsT w1 (w.heap.size + 1) 47 := ⟨_, _, (hb1.block _ (by simp)).trans (by simpa using heap_alloc_new (w.alloc _) _)⟩
      have RES := Asd.mk hres
      clear hres
      have TB := Asd.mk (H.out.below hB)
      have hcg := TB.out.cell
      obtain ⟨b, off, rfl, hbl, hl, c0, c1, c2⟩ := TB.out.rd.row (i := pos key l) hpl
      rw [SS.out] at c0 c1 c2
      have BB := Asd.mk hB
      clear hB hb1
      go_wp2_with fail
      refine bodyPost_ret (v := Res.flat ⟨0, r.stamp, r.val, []⟩) (by simp [results, Try.results43, go_sem, Res.flat, hc1, hs0, hs1]) rfl ?_
      rw [← P.out, show oneP l _ = (l, ⟨0, r.stamp, r.val, []⟩) from by simp [oneP, T.out, Res.fail, RA.out, ]]
      exact OnePost.flat rfl rfl (gb_trans (gb_set (gb_set (gb_set (gb_set (gb_below BB.out _) (by simp) _) (by simp) _) (by simp) _) (by simp) _) (gb_below ((Below.refl _ _).alloc (Nat.le_refl _) _) _)) ⟨_, _, ((H.out.below BB.out).set4 RES.out (by decide) (by decide) (by have := H.out.ge; omega) _ _ _ _).below ((Below.refl _ _).alloc (Nat.le_refl _) _), .inl rfl⟩
    · have q1 : (test == 0) = false := by simpa using h4
      have q1' : (test != 0) = true := by simpa using h4
      by_cases h2 : test = r.stamp
      · subst h2
        go_enter Try.func43, Try.ntmps43
        go_wp2_with fail
        refine (AT.out _ (((Below.refl _ _).alloc (Nat.le_refl _) _).alloc (by simp) _)).mono ?_
        rw [T.out]
        rintro e w1 ⟨rfl, hb1⟩
        obtain ⟨hc1, hf1⟩ := bcell hb1
        have hs1 : w.heap.size + 1 < w1.heap.size := by have := hb1.size; simp at this; omega
        have hs0 : w.heap.size < w1.heap.size := by omega
        have hB : Below w.heap.size w w1 := (((Below.refl _ _).alloc (Nat.le_refl _) _).alloc (by simp) _).trans (hb1.mono (by simp; omega))
        have hres : IsT w1 (w.heap.size + 1) 47 := ⟨_, _, (hb1.block _ (by simp)).trans (by simpa using heap_alloc_new (w.alloc _) _)⟩
        have RES := Asd.mk hres
        clear hres
        have TB := Asd.mk (H.out.below hB)
        have hcg := TB.out.cell
        obtain ⟨b, off, rfl, hbl, hl, c0, c1, c2⟩ := TB.out.rd.row (i := pos key l) hpl
        rw [SS.out] at c0 c1 c2
        have BB := Asd.mk hB
        clear hB hb1
        go_wp2_with fail
        refine bodyPost_ret (v := Res.flat ⟨0, r.stamp, r.val, []⟩) (by simp [results, Try.results43, go_sem, Res.flat, hc1, hs0, hs1]) rfl ?_
        rw [← P.out, show oneP l _ = (l, ⟨0, r.stamp, r.val, []⟩) from by simp [oneP, T.out, Res.fail, RA.out, ]]
        exact OnePost.flat rfl rfl (gb_trans (gb_set (gb_set (gb_set (gb_set (gb_below BB.out _) (by simp) _) (by simp) _) (by simp) _) (by simp) _) (gb_below ((Below.refl _ _).alloc (Nat.le_refl _) _) _)) ⟨_, _, ((H.out.below BB.out).set4 RES.out (by decide) (by decide) (by have := H.out.ge; omega) _ _ _ _).below ((Below.refl _ _).alloc (Nat.le_refl _) _), .inl rfl⟩
      · have q2 : (test == r.stamp) = false := by simpa using h2
        have q2' : (test != r.stamp) = true := by simpa using h2
        go_enter Try.func43, Try.ntmps43
        go_wp2_with fail
        refine (AT.out _ (((Below.refl _ _).alloc (Nat.le_refl _) _).alloc (by simp) _)).mono ?_
        rw [T.out]
        rintro e w1 ⟨rfl, hb1⟩
        obtain ⟨hc1, hf1⟩ := bcell hb1
        have hs1 : w.heap.size + 1 < w1.heap.size := by have := hb1.size; simp at this; omega
        have hs0 : w.heap.size < w1.heap.size := by omega
        have hB : Below w.heap.size w w1 := (((Below.refl _ _).alloc (Nat.le_refl _) _).alloc (by simp) _).trans (hb1.mono (by simp; omega))
        have hres : IsT w1 (w.heap.size + 1) 47 := ⟨_, _, (hb1.block _ (by simp)).trans (by simpa using heap_alloc_new (w.alloc _) _)⟩
        have RES := Asd.mk hres
        clear hres
        have TB := Asd.mk (H.out.below hB)
        have hcg := TB.out.cell
        obtain ⟨b, off, rfl, hbl, hl, c0, c1, c2⟩ := TB.out.rd.row (i := pos key l) hpl
        rw [SS.out] at c0 c1 c2
        have BB := Asd.mk hB
        clear hB hb1
        go_wp2_with fail
        refine (refused_calls _ _ _).mono ?_
        rintro e w2 ⟨rfl, hb2⟩
        have hw2 : Below w1.heap.size w1 w2 := by first | exact hb2 | exact ((Below.refl _ _).alloc (Nat.le_refl _) _).trans (hb2.mono (by simp))
        obtain ⟨hc2, hf2⟩ := bcell hw2
        have hs2 : w.heap.size + 1 < w2.heap.size := by have := hw2.size; omega
        have B2 := Asd.mk hw2
        clear hb2 hw2
        go_wp2_with fail
        refine bodyPost_ret (v := Res.flat ⟨92, r.stamp, ⟨#[]⟩, []⟩) (by simp [results, Try.results43, go_sem, Res.flat, hc1, hc2, hs0, hs1, hs2]) rfl ?_
        rw [← P.out, show oneP l _ = (l, ⟨92, r.stamp, ⟨#[]⟩, []⟩) from by simp [oneP, T.out, Res.fail, RA.out, h4, h2]]
        exact one_fin H.out (BB.out.trans (B2.out.mono (by omega))) (RES.out.of_block (B2.out.block _ hs1)) _ rfl _ _ _ _

end Go.Proofs.Ytlhjfblpinpjiaa

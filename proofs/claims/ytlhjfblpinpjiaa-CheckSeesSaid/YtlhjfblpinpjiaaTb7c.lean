/- One operation of a table: kind 4. -/
import Derived.Test.YtlhjfblpinpjiaaTb7w
set_option linter.unusedVariables false
set_option linter.unusedSimpArgs false
namespace Go.Proofs.Ytlhjfblpinpjiaa
open Go.RowKit

set_option maxHeartbeats 8000000 in
set_option maxRecDepth 100000 in
theorem one4_calls {base g c : Nat} {w : World} {l : List Rw} {A : Option Addr} (h : Tab base w g l A c) (x : OpR) (hv : x.val.size ≤ 9223372036854775807) (h6 : x.kind = 4) :
    Calls Try.prog 43 #[.pointer (some ⟨g, 0, none⟩), .agg x.enc.toArray] w (OnePost base w A g (oneP l x)) := by
  obtain ⟨kind, key, val, stamp, test, most⟩ := x
  simp only at hv h6
  subst h6
  generalize hp : oneP l ⟨4, key, val, stamp, test, most⟩ = p
  have P := Asd.mk hp
  clear hp
  unfold OpR.enc at *
  have H := Asd.mk h
  have hat := fun (W : World) (hb : Below w.heap.size w W) => at_calls (h.below hb) key
  have AT := Asd.mk hat
  have hgl := h.lt
  clear h hat
  cases ht : there key l with
  | false =>
    have T := Asd.mk ht
    have RA := Asd.mk True.intro
    clear ht
    go_enter Try.func43, Try.ntmps43
    go_wp2_with fail
    refine (AT.out _ (((Below.refl _ _).alloc (Nat.le_refl _) _).alloc (by simp) _)).mono ?_
    rw [T.out]
    rintro e w1 ⟨rfl, hb1⟩
    obtain ⟨hc1, hf1⟩ := bcell hb1
    have hs1 : w.heap.size + 1 < w1.heap.size := by have := hb1.size; simp at this; omega
    have hs0 : w.heap.size < w1.heap.size := by omega
    have hB : Below w.heap.size w w1 := (((Below.refl _ _).alloc (Nat.le_refl _) _).alloc (by simp) _).trans (hb1.mono (by simp; omega))
    have hres : IsT w1 (w.heap.size + 1) 47 := ⟨_, _, (hb1.block _ (by simp)).trans (by simpa using heap_alloc_new (w.alloc _) _)⟩
    have RES := Asd.mk hres
    clear hres
    have TB := Asd.mk (H.out.below hB)
    have hcg := TB.out.cell
    have BB := Asd.mk hB
    clear hB hb1
    go_wp2_with fail
    refine (refused_calls _ _ _).mono ?_
    rintro e w2 ⟨rfl, hb2⟩
    have hw2 : Below w1.heap.size w1 w2 := by first | exact hb2 | exact ((Below.refl _ _).alloc (Nat.le_refl _) _).trans (hb2.mono (by simp))
    obtain ⟨hc2, hf2⟩ := bcell hw2
    have hs2 : w.heap.size + 1 < w2.heap.size := by have := hw2.size; omega
    have B2 := Asd.mk hw2
    clear hb2 hw2
    go_wp2_with fail
    refine bodyPost_ret (v := Res.flat ⟨91, 0, ⟨#[]⟩, []⟩) (by simp [results, Try.results43, go_sem, Res.flat, hc1, hc2, hs0, hs1, hs2]) rfl ?_
    rw [← P.out, show oneP l _ = (l, ⟨91, 0, ⟨#[]⟩, []⟩) from by simp [oneP, T.out, Res.fail, RA.out, ]]
    exact one_fin H.out (BB.out.trans (B2.out.mono (by omega))) (RES.out.of_block (B2.out.block _ hs1)) _ rfl _ _ _ _
  | true =>
    obtain ⟨hpl, hpk⟩ := pos_lt H.out.srt ht
    have T := Asd.mk ht
    have hpc : (pos key l : Int) < (l.length : Int) := by omega
    have wr : wrap64 ((pos key l : Int) + 1) = ((pos key l + 1 : Nat) : Int) := by have := H.out.big; unfold wrap64; omega
    have RA := Asd.mk (rowAt_eq hpl)
    generalize hs : l[pos key l] = r at RA
    have SS := Asd.mk hs
    clear hs hpk ht
    by_cases h4 : test = 0
    · subst h4
      go_enter Try.func43, Try.ntmps43
      go_wp2_with fail
      refine (AT.out _ (((Below.refl _ _).alloc (Nat.le_refl _) _).alloc (by simp) _)).mono ?_
      rw [T.out]
      rintro e w1 ⟨rfl, hb1⟩
      obtain ⟨hc1, hf1⟩ := bcell hb1
      have hs1 : w.heap.size + 1 < w1.heap.size := by have := hb1.size; simp at this; omega
      have hs0 : w.heap.size < w1.heap.size := by omega
      have hB : Below w.heap.size w w1 := (((Below.refl _ _).alloc (Nat.le_refl _) _).alloc (by simp) _).trans (hb1.mono (by simp; omega))
      have hres : IsT w1 (w.heap.size + 1) 47 := ⟨_, _, (hb1.block _ (by simp)).trans (by simpa using heap_alloc_new (w.alloc _) _)⟩
      have RES := Asd.mk hres
      clear hres
      have TB := Asd.mk (H.out.below hB)
      have hcg := TB.out.cell
      obtain ⟨b, off, rfl, hbl, hl, c0, c1, c2⟩ := TB.out.rd.row (i := pos key l) hpl
      rw [SS.out] at c0 c1 c2
      have BB := Asd.mk hB
      clear hB hb1
      go_wp2_with fail
      refine (splice_calls (base := base) (A := some ⟨b, off, none⟩) (c := c) (l := l) (m := []) ?_ (pos key l) (pos key l + 1) (by omega) (by omega) _ _ _ Rd.none_ (by omega)).mono ?_
      · exact TB.out.below ((Below.refl _ _).alloc (Nat.le_refl _) _)
      · rintro e w3 ⟨rfl, hg3, A3, c3, hh3, hr3, hfr3, hlt3⟩
        have FR3 := Asd.mk (Fr.mono (w := w) hfr3 (by have := BB.out.size; simp; omega))
        have LT3 := Asd.mk hlt3
        clear hfr3 hlt3
        have hblk : ∀ b, b ≤ w1.heap.size → b ≠ g → w3.heap[b]? = (w1.alloc (.cells #[.string r.key, .int .i64 r.stamp, .string r.val] 86)).heap[b]? := fun b hb hne => hg3.block b (by simp; omega) (by simpa using hne)
        have hc3 : ∀ b o, b ≤ w1.heap.size → b ≠ g → w3.cell? ⟨b, o, none⟩ = (w1.alloc (.cells #[.string r.key, .int .i64 r.stamp, .string r.val] 86)).cell? ⟨b, o, none⟩ := fun b o hb hne => World.cell?_of_block (w := w1.alloc _) (hblk b hb hne)
        have hf3 : ∀ b o, b ≤ w1.heap.size → b ≠ g → w3.frozen? ⟨b, o, none⟩ = (w1.alloc (.cells #[.string r.key, .int .i64 r.stamp, .string r.val] 86)).frozen? ⟨b, o, none⟩ := fun b o hb hne => World.frozen?_of_block (w := w1.alloc _) (hblk b hb hne)
        have hs3 : w.heap.size + 1 < w3.heap.size := by have := hg3.size; simp at this; omega
        have hn1 : w.heap.size ≠ g := by omega
        have hn2 : w.heap.size + 1 ≠ g := by omega
        have hn3 : w1.heap.size ≠ g := by omega
        have hs4 : w.heap.size + 1 ≤ w1.heap.size := by omega
        have RE3 := Asd.mk ((RES.out.of_block (Below.heap_alloc w1 (.cells #[.string r.key, .int .i64 r.stamp, .string r.val] 86) _ hs1)).of_block (hblk _ hs4 hn2))
        have hG : w.grownBy w3 (some g) := gb_trans (gb_below BB.out _) (gb_trans (gb_below ((Below.refl _ _).alloc (Nat.le_refl _) _) _) hg3)
        have G3 := Asd.mk hG
        have HH := Asd.mk hh3
        have HR := Asd.mk hr3
        clear hG hg3 hh3 hr3 hblk
        go_wp2_with fail
        refine bodyPost_ret (v := Res.flat ⟨0, r.stamp, ⟨#[]⟩, []⟩) (by simp [results, Try.results43, go_sem, Res.flat, hc1, hc3, hs0, hs1, hs3, hs4, hn1, hn2, hn3]) rfl ?_
        have hsr := oneP_sorted H.out.srt ⟨4, key, val, stamp, 0, most⟩
        have hln := oneP_len H.out.srt H.out.big ⟨4, key, val, stamp, 0, most⟩
        have hpw : oneP l ⟨4, key, val, stamp, 0, most⟩ = (l.take (pos key l) ++ [] ++ l.drop (pos key l + 1), ⟨0, r.stamp, ⟨#[]⟩, []⟩) := by simp [oneP, T.out, Res.fail, RA.out, ]
        rw [hpw] at hsr hln
        rw [← P.out, hpw]
        refine OnePost.flat rfl rfl ?_ ⟨A3, c3, ?_, FR3.out⟩
        · repeat (first | exact G3.out | refine gb_set ?_ (by simp) _)
        · exact Tab.set4 ⟨HH.out, H.out.ge, HR.out, hsr, hln, LT3.out⟩ RE3.out (by decide) (by decide) (by have := H.out.ge; omega) _ _ _ _
    · have q1 : (test == 0) = false := by simpa using h4
      have q1' : (test != 0) = true := by simpa using h4
      by_cases h2 : test = r.stamp
      · subst h2
        go_enter Try.func43, Try.ntmps43
        go_wp2_with fail
        refine (AT.out _ (((Below.refl _ _).alloc (Nat.le_refl _) _).alloc (by simp) _)).mono ?_
        rw [T.out]
        rintro e w1 ⟨rfl, hb1⟩
        obtain ⟨hc1, hf1⟩ := bcell hb1
        have hs1 : w.heap.size + 1 < w1.heap.size := by have := hb1.size; simp at this; omega
        have hs0 : w.heap.size < w1.heap.size := by omega
        have hB : Below w.heap.size w w1 := (((Below.refl _ _).alloc (Nat.le_refl _) _).alloc (by simp) _).trans (hb1.mono (by simp; omega))
        have hres : IsT w1 (w.heap.size + 1) 47 := ⟨_, _, (hb1.block _ (by simp)).trans (by simpa using heap_alloc_new (w.alloc _) _)⟩
        have RES := Asd.mk hres
        clear hres
        have TB := Asd.mk (H.out.below hB)
        have hcg := TB.out.cell
        obtain ⟨b, off, rfl, hbl, hl, c0, c1, c2⟩ := TB.out.rd.row (i := pos key l) hpl
        rw [SS.out] at c0 c1 c2
        have BB := Asd.mk hB
        clear hB hb1
        go_wp2_with fail
        refine (splice_calls (base := base) (A := some ⟨b, off, none⟩) (c := c) (l := l) (m := []) ?_ (pos key l) (pos key l + 1) (by omega) (by omega) _ _ _ Rd.none_ (by omega)).mono ?_
        · exact TB.out.below ((Below.refl _ _).alloc (Nat.le_refl _) _)
        · rintro e w3 ⟨rfl, hg3, A3, c3, hh3, hr3, hfr3, hlt3⟩
          have FR3 := Asd.mk (Fr.mono (w := w) hfr3 (by have := BB.out.size; simp; omega))
          have LT3 := Asd.mk hlt3
          clear hfr3 hlt3
          have hblk : ∀ b, b ≤ w1.heap.size → b ≠ g → w3.heap[b]? = (w1.alloc (.cells #[.string r.key, .int .i64 r.stamp, .string r.val] 86)).heap[b]? := fun b hb hne => hg3.block b (by simp; omega) (by simpa using hne)
          have hc3 : ∀ b o, b ≤ w1.heap.size → b ≠ g → w3.cell? ⟨b, o, none⟩ = (w1.alloc (.cells #[.string r.key, .int .i64 r.stamp, .string r.val] 86)).cell? ⟨b, o, none⟩ := fun b o hb hne => World.cell?_of_block (w := w1.alloc _) (hblk b hb hne)
          have hf3 : ∀ b o, b ≤ w1.heap.size → b ≠ g → w3.frozen? ⟨b, o, none⟩ = (w1.alloc (.cells #[.string r.key, .int .i64 r.stamp, .string r.val] 86)).frozen? ⟨b, o, none⟩ := fun b o hb hne => World.frozen?_of_block (w := w1.alloc _) (hblk b hb hne)
          have hs3 : w.heap.size + 1 < w3.heap.size := by have := hg3.size; simp at this; omega
          have hn1 : w.heap.size ≠ g := by omega
          have hn2 : w.heap.size + 1 ≠ g := by omega
          have hn3 : w1.heap.size ≠ g := by omega
          have hs4 : w.heap.size + 1 ≤ w1.heap.size := by omega
          have RE3 := Asd.mk ((RES.out.of_block (Below.heap_alloc w1 (.cells #[.string r.key, .int .i64 r.stamp, .string r.val] 86) _ hs1)).of_block (hblk _ hs4 hn2))
          have hG : w.grownBy w3 (some g) := gb_trans (gb_below BB.out _) (gb_trans (gb_below ((Below.refl _ _).alloc (Nat.le_refl _) _) _) hg3)
          have G3 := Asd.mk hG
          have HH := Asd.mk hh3
          have HR := Asd.mk hr3
          clear hG hg3 hh3 hr3 hblk
          go_wp2_with fail
          refine bodyPost_ret (v := Res.flat ⟨0, r.stamp, ⟨#[]⟩, []⟩) (by simp [results, Try.results43, go_sem, Res.flat, hc1, hc3, hs0, hs1, hs3, hs4, hn1, hn2, hn3]) rfl ?_
          have hsr := oneP_sorted H.out.srt ⟨4, key, val, stamp, r.stamp, most⟩
          have hln := oneP_len H.out.srt H.out.big ⟨4, key, val, stamp, r.stamp, most⟩
          have hpw : oneP l ⟨4, key, val, stamp, r.stamp, most⟩ = (l.take (pos key l) ++ [] ++ l.drop (pos key l + 1), ⟨0, r.stamp, ⟨#[]⟩, []⟩) := by simp [oneP, T.out, Res.fail, RA.out, ]
          rw [hpw] at hsr hln
          rw [← P.out, hpw]
          refine OnePost.flat rfl rfl ?_ ⟨A3, c3, ?_, FR3.out⟩
          · repeat (first | exact G3.out | refine gb_set ?_ (by simp) _)
          · exact Tab.set4 ⟨HH.out, H.out.ge, HR.out, hsr, hln, LT3.out⟩ RE3.out (by decide) (by decide) (by have := H.out.ge; omega) _ _ _ _
      · have q2 : (test == r.stamp) = false := by simpa using h2
        have q2' : (test != r.stamp) = true := by simpa using h2
        go_enter Try.func43, Try.ntmps43
        go_wp2_with fail
        refine (AT.out _ (((Below.refl _ _).alloc (Nat.le_refl _) _).alloc (by simp) _)).mono ?_
        rw [T.out]
        rintro e w1 ⟨rfl, hb1⟩
        obtain ⟨hc1, hf1⟩ := bcell hb1
        have hs1 : w.heap.size + 1 < w1.heap.size := by have := hb1.size; simp at this; omega
        have hs0 : w.heap.size < w1.heap.size := by omega
        have hB : Below w.heap.size w w1 := (((Below.refl _ _).alloc (Nat.le_refl _) _).alloc (by simp) _).trans (hb1.mono (by simp; omega))
        have hres : IsT w1 (w.heap.size + 1) 47 := ⟨_, _, (hb1.block _ (by simp)).trans (by simpa using heap_alloc_new (w.alloc _) _)⟩
        have RES := Asd.mk hres
        clear hres
        have TB := Asd.mk (H.out.below hB)
        have hcg := TB.out.cell
        obtain ⟨b, off, rfl, hbl, hl, c0, c1, c2⟩ := TB.out.rd.row (i := pos key l) hpl
        rw [SS.out] at c0 c1 c2
        have BB := Asd.mk hB
        clear hB hb1
        go_wp2_with fail
        refine (refused_calls _ _ _).mono ?_
        rintro e w2 ⟨rfl, hb2⟩
        have hw2 : Below w1.heap.size w1 w2 := by first | exact hb2 | exact ((Below.refl _ _).alloc (Nat.le_refl _) _).trans (hb2.mono (by simp))
        obtain ⟨hc2, hf2⟩ := bcell hw2
        have hs2 : w.heap.size + 1 < w2.heap.size := by have := hw2.size; omega
        have B2 := Asd.mk hw2
        clear hb2 hw2
        go_wp2_with fail
        refine bodyPost_ret (v := Res.flat ⟨92, r.stamp, ⟨#[]⟩, []⟩) (by simp [results, Try.results43, go_sem, Res.flat, hc1, hc2, hs0, hs1, hs2]) rfl ?_
        rw [← P.out, show oneP l _ = (l, ⟨92, r.stamp, ⟨#[]⟩, []⟩) from by simp [oneP, T.out, Res.fail, RA.out, h4, h2]]
        exact one_fin H.out (BB.out.trans (B2.out.mono (by omega))) (RES.out.of_block (B2.out.block _ hs1)) _ rfl _ _ _ _

end Go.Proofs.Ytlhjfblpinpjiaa

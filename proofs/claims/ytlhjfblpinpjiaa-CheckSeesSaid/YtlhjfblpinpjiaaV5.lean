/- The document's table: an operation that writes. -/
import Derived.Test.YtlhjfblpinpjiaaV4
set_option linter.unusedVariables false
set_option linter.unusedSimpArgs false
namespace Go.Proofs.Ytlhjfblpinpjiaa
open Go.RowKit

def rwriteP (l : List Rw) (x : OpR) : List Rw × Res :=
  if there x.key l = true then (if x.kind = 1 then (l, .fail 90 (rowAt l (pos x.key l)).stamp) else changeP l x (rowAt l (pos x.key l)).stamp)
  else if x.kind = 2 ∨ (x.kind = 3 ∧ x.test ≠ 0) then (l, .fail 91 0) else addP l x

set_option maxHeartbeats 8000000 in
set_option maxRecDepth 100000 in
theorem Rwrite_calls {base g c : Nat} {w : World} {l : List Rw} {A : Option Addr} (h : RTab base w g l A c) (x : OpR) (hv : x.val.size ≤ 9223372036854775807) :
    Calls Try.prog 78 #[.pointer (some ⟨g, 0, none⟩), .agg x.enc.toArray] w (RWritePost base w A g (rwriteP l x)) := by
  have CH : Asd (there x.key l = true → ∀ W, Below w.heap.size w W → ∀ (wk wv : ByteArray) (s : Int), Calls Try.prog 81 #[.pointer (some ⟨g, 0, none⟩), .agg x.enc.toArray, .agg #[.string wk, .int .i64 s, .string wv]] W (RWritePost base W A g (changeP l x s))) := ⟨fun ht W hW wk wv s => Rchange_calls (h.below hW) x hv ht wk wv s⟩
  have AD : Asd (there x.key l = false → ∀ W, Below w.heap.size w W → Calls Try.prog 82 #[.pointer (some ⟨g, 0, none⟩), .agg x.enc.toArray] W (RWritePost base W A g (addP l x))) := ⟨fun ht W hW => Radd_calls (h.below hW) x hv ht⟩
  obtain ⟨kind, key, val, stamp, test, most⟩ := x
  simp only at hv
  generalize hp : rwriteP l ⟨kind, key, val, stamp, test, most⟩ = p
  have P := Asd.mk hp
  clear hp
  unfold OpR.enc at *
  have H := Asd.mk h
  have AT : Asd (∀ W, Below w.heap.size w W → Calls Try.prog 77 #[.pointer (some ⟨g, 0, none⟩), .string key] W fun e w' => e = .returned (.tuple #[.int .i64 (pos key l), .bool (there key l)]) ∧ Below W.heap.size W w') := ⟨fun W hW => Find_calls (h.below hW) key⟩
  have hgl := h.lt
  have hl4 := h.big
  clear h
  have hB0 : Below w.heap.size w ((w.alloc (.cells #[.int .i64 kind, .string key, .string val, .int .i64 stamp, .int .i64 test, .int .i64 most] 64)).alloc (.cells #[.int .i64 0, .int .i64 0, .string ⟨#[]⟩, .slice none 0 0] 47)) := ((Below.refl _ _).alloc (Nat.le_refl _) _).alloc (by simp) _
  have e0 : ((w.alloc (.cells #[.int .i64 kind, .string key, .string val, .int .i64 stamp, .int .i64 test, .int .i64 most] 64)).alloc (.cells #[.int .i64 0, .int .i64 0, .string ⟨#[]⟩, .slice none 0 0] 47)).heap[w.heap.size]? = some (.cells #[.int .i64 kind, .string key, .string val, .int .i64 stamp, .int .i64 test, .int .i64 most] 64 (0, 0)) := (Below.heap_alloc _ _ _ (by simp)).trans (heap_alloc_new w _)
  have e1 : ((w.alloc (.cells #[.int .i64 kind, .string key, .string val, .int .i64 stamp, .int .i64 test, .int .i64 most] 64)).alloc (.cells #[.int .i64 0, .int .i64 0, .string ⟨#[]⟩, .slice none 0 0] 47)).heap[w.heap.size + 1]? = some (.cells #[.int .i64 0, .int .i64 0, .string ⟨#[]⟩, .slice none 0 0] 47 (0, 0)) := by simpa using heap_alloc_new (w.alloc (.cells #[.int .i64 kind, .string key, .string val, .int .i64 stamp, .int .i64 test, .int .i64 most] 64)) (.cells #[.int .i64 0, .int .i64 0, .string ⟨#[]⟩, .slice none 0 0] 47)
  have hz0 : ((w.alloc (.cells #[.int .i64 kind, .string key, .string val, .int .i64 stamp, .int .i64 test, .int .i64 most] 64)).alloc (.cells #[.int .i64 0, .int .i64 0, .string ⟨#[]⟩, .slice none 0 0] 47)).heap.size = w.heap.size + 2 := by simp
  have B0 := Asd.mk hB0
  have E0 := Asd.mk e0
  have E1 := Asd.mk e1
  have Z0 := Asd.mk hz0
  clear hB0 e0 e1 hz0
  go_enter Try.func78, Try.ntmps78
  go_wp2_with fail
  generalize ((w.alloc (.cells #[.int .i64 kind, .string key, .string val, .int .i64 stamp, .int .i64 test, .int .i64 most] 64)).alloc (.cells #[.int .i64 0, .int .i64 0, .string ⟨#[]⟩, .slice none 0 0] 47)) = w0 at *
  refine (AT.out _ B0.out).mono ?_
  rintro e w1 ⟨rfl, hb1⟩
  have hB1 := B0.out.trans (hb1.mono B0.out.size)
  have k0 := (hb1.block _ (by rw [Z0.out]; omega)).trans E0.out
  have k1 := (hb1.block _ (by rw [Z0.out]; omega)).trans E1.out
  have hs1 : w.heap.size + 1 < w1.heap.size := by have h1 := hb1.size; have h2 := Z0.out; omega
  have hs0 : w.heap.size < w1.heap.size := by omega
  have x0 : w1.cell? ⟨w.heap.size, 0, none⟩ = some (.int .i64 kind) := cell_of_row _ _ 0 _ _ _ k0
  have x1 : w1.cell? ⟨w.heap.size, 1, none⟩ = some (.string key) := cell_of_row _ _ 1 _ _ _ k0
  have x2 : w1.cell? ⟨w.heap.size, 2, none⟩ = some (.string val) := cell_of_row _ _ 2 _ _ _ k0
  have x3 : w1.cell? ⟨w.heap.size, 3, none⟩ = some (.int .i64 stamp) := cell_of_row _ _ 3 _ _ _ k0
  have x4 : w1.cell? ⟨w.heap.size, 4, none⟩ = some (.int .i64 test) := cell_of_row _ _ 4 _ _ _ k0
  have x5 : w1.cell? ⟨w.heap.size, 5, none⟩ = some (.int .i64 most) := cell_of_row _ _ 5 _ _ _ k0
  have r0 : w1.cell? ⟨w.heap.size + 1, 0, none⟩ = some (.int .i64 0) := cell_of_row _ _ 0 _ _ _ k1
  have r1 : w1.cell? ⟨w.heap.size + 1, 1, none⟩ = some (.int .i64 0) := cell_of_row _ _ 1 _ _ _ k1
  have r2 : w1.cell? ⟨w.heap.size + 1, 2, none⟩ = some (.string ⟨#[]⟩) := cell_of_row _ _ 2 _ _ _ k1
  have r3 : w1.cell? ⟨w.heap.size + 1, 3, none⟩ = some (.slice none 0 0) := cell_of_row _ _ 3 _ _ _ k1
  have f0 : ∀ o, w1.frozen? ⟨w.heap.size + 1, o, none⟩ = false := fun o => frozen_of_row _ _ o _ _ k1
  have RE1 : Asd (IsT w1 (w.heap.size + 1) 47) := ⟨_, _, k1⟩
  have K1 := Asd.mk k1
  have hcg := (H.out.below hB1).cell
  have BB := Asd.mk hB1
  have AFTER : Asd (∀ (w2 w3 : World) (pr : List Rw × Res), Below w1.heap.size w1 w2 → RWritePost base w2 A g pr (.returned pr.2.flat) w3 → (∀ o, w3.cell? ⟨w.heap.size + 1, o, none⟩ = w1.cell? ⟨w.heap.size + 1, o, none⟩ ∧ w3.frozen? ⟨w.heap.size + 1, o, none⟩ = false) ∧ w.heap.size + 1 < w3.heap.size ∧ ∀ (e : Ending) (u0 u1 u2 u3 : Value), e = .returned pr.2.flat → RWritePost base w A g pr e ((((w3.setCell ⟨w.heap.size + 1, 0, none⟩ u0).setCell ⟨w.heap.size + 1, 1, none⟩ u1).setCell ⟨w.heap.size + 1, 2, none⟩ u2).setCell ⟨w.heap.size + 1, 3, none⟩ u3)) := ⟨by
    rintro w2 w3 pr hb2 ⟨_, hg3, A3, c3, hT3, hfr3⟩
    have hne : w.heap.size + 1 ≠ g := by omega
    have hs2 : w.heap.size + 1 < w2.heap.size := Nat.lt_of_lt_of_le hs1 hb2.size
    have q := (gb_keep hg3 hs2 hne).trans (hb2.block _ hs1)
    have hB2 := BB.out.trans (hb2.mono BB.out.size)
    refine ⟨fun o => ⟨World.cell?_of_block (w := w1) q, (World.frozen?_of_block (w := w1) q).trans (frozen_of_row _ _ o _ _ K1.out)⟩, Nat.lt_of_lt_of_le hs2 hg3.size, fun e u0 u1 u2 u3 he => ⟨he, ?_, A3, c3, ?_, Fr.mono hfr3 hB2.size⟩⟩
    · exact gb_set (gb_set (gb_set (gb_set (gb_trans (gb_below hB2 _) hg3) (by simp) _) (by simp) _) (by simp) _) (by simp) _
    · exact RTab.set4 hT3 ⟨_, _, q.trans K1.out⟩ (by decide) (by decide) (by have := H.out.ge; omega) _ _ _ _⟩
  clear hB1 hb1 k0 k1
  cases ht : there key l with
  | true =>
    obtain ⟨hpl, hpk⟩ := pos_lt H.out.srt ht
    have T := Asd.mk ht
    obtain ⟨b, off, rfl, hbl, hl, c0, c1, c2⟩ := (H.out.below BB.out).rd.row hpl
    have hpc : (pos key l : Int) < (l.length : Int) := by omega
    have hcap : pos key l < c := Nat.lt_of_lt_of_le hpl H.out.rd.cap
    have RA := Asd.mk (rowAt_eq hpl)
    generalize hs : l[pos key l] = r at RA c0 c1 c2
    have SS := Asd.mk hs
    have CHT := Asd.mk (CH.out ht)
    clear hs hpk ht CH AD AT
    by_cases h1 : kind = 1
    · subst h1
      go_wp2_with fail
      refine bodyPost_ret (v := (Res.fail 90 r.stamp).flat) (by simp [results, Try.results78, go_sem, Res.flat, Res.fail, r0, r1, r2, r3, hs0, hs1]) rfl ?_
      rw [← P.out, show rwriteP l _ = (l, Res.fail 90 r.stamp) from by simp [rwriteP, T.out, RA.out]]
      refine RWritePost.same H.out ?_ rfl
      repeat (first | exact BB.out | refine Below.setCell ?_ (by simp <;> omega) _)
    · have k1' : (kind == 1) = false := by simpa using h1
      have PP : Asd (rwriteP l ⟨kind, key, val, stamp, test, most⟩ = changeP l ⟨kind, key, val, stamp, test, most⟩ r.stamp) := ⟨by simp [rwriteP, T.out, RA.out, h1]⟩
      go_wp2_with fail
      go_region_with (go_at_call 81; refine (CHT.out _ (BB.out.drew) r.key r.val r.stamp).mono ?_; rintro e w3 ⟨rfl, hrest⟩; obtain ⟨hcr, hs3, hfin⟩ := AFTER.out _ w3 _ ((Below.refl _ _).drew) ⟨rfl, hrest⟩; have z0 := (hcr 0).1.trans r0; have z1 := (hcr 1).1.trans r1; have z2 := (hcr 2).1.trans r2; have z3 := (hcr 3).1.trans r3; have fz := fun o => (hcr o).2; have FIN := Asd.mk hfin; clear hrest hcr hfin; rw [← PP.out, P.out] at FIN ⊢; unfold Res.flat)
      all_goals
        go_wp2_with fail
        refine bodyPost_ret (v := p.2.flat) (by simp [results, Try.results78, go_sem, Res.flat, Res.fail, z0, z1, z2, z3, hs3]) rfl ?_
        exact FIN.out _ _ _ _ _ rfl
  | false =>
    have T := Asd.mk ht
    have ADT := Asd.mk (AD.out ht)
    clear ht CH AD AT
    have early : (kind = 2 ∨ (kind = 3 ∧ test ≠ 0)) → rwriteP l ⟨kind, key, val, stamp, test, most⟩ = (l, Res.fail 91 0) := fun hh => by
      simp only [rwriteP]
      rw [if_neg (by rw [T.out]; decide), if_pos hh]
    have late : ¬ (kind = 2 ∨ (kind = 3 ∧ test ≠ 0)) → rwriteP l ⟨kind, key, val, stamp, test, most⟩ = addP l ⟨kind, key, val, stamp, test, most⟩ := fun hh => by
      simp only [rwriteP]
      rw [if_neg (by rw [T.out]; decide), if_neg hh]
    have EA := Asd.mk early
    have LA := Asd.mk late
    clear early late
    by_cases h2 : kind = 2
    · subst h2
      have PE := Asd.mk (EA.out (.inl rfl))
      go_wp2_with fail
      refine bodyPost_ret (v := (Res.fail 91 0).flat) (by simp [results, Try.results78, go_sem, Res.flat, Res.fail, r0, r1, r2, r3, hs0, hs1]) rfl ?_
      rw [← P.out, PE.out]
      refine RWritePost.same H.out ?_ rfl
      repeat (first | exact BB.out | refine Below.setCell ?_ (by simp <;> omega) _)
    · have k2 : (kind == 2) = false := by simpa using h2
      by_cases h3 : kind = 3
      · subst h3
        by_cases h4 : test = 0
        · subst h4
          have PE := Asd.mk (LA.out (by simp))
          go_wp2_with fail
          refine (ADT.out _ BB.out).mono ?_
          rintro e w3 ⟨rfl, hrest⟩
          obtain ⟨hcr, hs3, hfin⟩ := AFTER.out _ w3 _ (Below.refl _ _) ⟨rfl, hrest⟩
          have z0 := (hcr 0).1.trans r0
          have z1 := (hcr 1).1.trans r1
          have z2 := (hcr 2).1.trans r2
          have z3 := (hcr 3).1.trans r3
          have fz := fun o => (hcr o).2
          have FIN := Asd.mk hfin
          clear hrest hcr hfin
          rw [← PE.out, P.out] at FIN ⊢
          unfold Res.flat
          go_wp2_with fail
          refine bodyPost_ret (v := p.2.flat) (by simp [results, Try.results78, go_sem, Res.flat, Res.fail, z0, z1, z2, z3, hs3]) rfl ?_
          exact FIN.out _ _ _ _ _ rfl
        · have q1 : (test == 0) = false := by simpa using h4
          have q2 : (test != 0) = true := by simpa using h4
          have PE := Asd.mk (EA.out (.inr ⟨rfl, h4⟩))
          go_wp2_with fail
          refine bodyPost_ret (v := (Res.fail 91 0).flat) (by simp [results, Try.results78, go_sem, Res.flat, Res.fail, r0, r1, r2, r3, hs0, hs1]) rfl ?_
          rw [← P.out, PE.out]
          refine RWritePost.same H.out ?_ rfl
          repeat (first | exact BB.out | refine Below.setCell ?_ (by simp <;> omega) _)
      · have k3 : (kind == 3) = false := by simpa using h3
        have PE := Asd.mk (LA.out (by simp [h2, h3]))
        go_wp2_with fail
        refine (ADT.out _ BB.out).mono ?_
        rintro e w3 ⟨rfl, hrest⟩
        obtain ⟨hcr, hs3, hfin⟩ := AFTER.out _ w3 _ (Below.refl _ _) ⟨rfl, hrest⟩
        have z0 := (hcr 0).1.trans r0
        have z1 := (hcr 1).1.trans r1
        have z2 := (hcr 2).1.trans r2
        have z3 := (hcr 3).1.trans r3
        have fz := fun o => (hcr o).2
        have FIN := Asd.mk hfin
        clear hrest hcr hfin
        rw [← PE.out, P.out] at FIN ⊢
        unfold Res.flat
        go_wp2_with fail
        refine bodyPost_ret (v := p.2.flat) (by simp [results, Try.results78, go_sem, Res.flat, Res.fail, z0, z1, z2, z3, hs3]) rfl ?_
        exact FIN.out _ _ _ _ _ rfl
end Go.Proofs.Ytlhjfblpinpjiaa

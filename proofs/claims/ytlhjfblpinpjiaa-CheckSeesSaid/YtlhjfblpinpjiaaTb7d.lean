/- One operation of a table. -/
import Derived.Test.YtlhjfblpinpjiaaTb7w
set_option linter.unusedVariables false
set_option linter.unusedSimpArgs false
namespace Go.Proofs.Ytlhjfblpinpjiaa
open Go.RowKit

set_option maxHeartbeats 4000000 in
set_option maxRecDepth 100000 in
theorem one6b_calls {base g c : Nat} {w : World} {l : List Rw} {A : Option Addr} (h : Tab base w g l A c) (x : OpR) (hmin0 : ¬ x.most.toNat ≤ l.length - pos x.key l) (hci0 : c = pos x.key l) (hv : x.val.size ≤ 9223372036854775807) (h6 : x.kind = 6) (hm : x.kind = 6 → 1 ≤ x.most ∧ x.most ≤ 100) :
    Calls Try.prog 43 #[.pointer (some ⟨g, 0, none⟩), .agg x.enc.toArray] w (OnePost base w A g (oneP l x)) := by
  obtain ⟨kind, key, val, stamp, test, most⟩ := x
  simp only at hv hm h6 hmin0 hci0
  generalize hp : oneP l ⟨kind, key, val, stamp, test, most⟩ = p
  have P := Asd.mk hp
  clear hp
  unfold OpR.enc at *
  have H := Asd.mk h
  have hat := fun (W : World) (hb : Below w.heap.size w W) => at_calls (h.below hb) key
  have AT := Asd.mk hat
  have hgl := h.lt
  clear h hat
  subst h6
  obtain ⟨hm1, hm2⟩ := hm rfl
  clear hm
  have hpl := pos_le key l
  have hcl := H.out.rd.cap
  have hl4 := H.out.big
  obtain ⟨mn, rfl⟩ : ∃ mn : Nat, most = mn := ⟨most.toNat, by omega⟩
  have hw1 : IntKind.i64.wrap ((l.length : Int) - (pos key l : Int)) = ((l.length - pos key l : Nat) : Int) := by
    rw [IntWalk.i64_in _ (by omega)]; omega
  have HW := Asd.mk hw1
  clear hw1
  have hmin : ¬ mn ≤ l.length - pos key l := by simpa using hmin0
  have hci : c = pos key l := hci0
  clear hmin0 hci0
  have hrows : (oneP l ⟨6, key, val, stamp, test, (mn : Int)⟩) = (l, ⟨0, 0, ⟨#[]⟩, (l.drop (pos key l)).take (l.length - pos key l)⟩) := by
    have : (min (mn : Int) ((l.length : Int) - (pos key l : Int))).toNat = (l.length - pos key l) := by omega
    simp [oneP, this]
  have hcl := fun (W : World) (hb : Below w.heap.size w W) => Clone_row (base := base) W _ _ _ _ ((H.out.below hb).rd.cut (lo := pos key l) (hi := l.length) (c' := c) (by omega) (by omega) (by omega) (Nat.le_refl _)) (by
    rw [show (rowCells l).drop (pos key l * 3) = rowCells (l.drop (pos key l)) from flat_drop Rw.enc 3 (fun _ => rfl) l _, show (rowCells (l.drop (pos key l))).take _ = rowCells _ from flat_take Rw.enc 3 (fun _ => rfl) _ _]
    exact row_one _) (by omega)
  rw [show (rowCells l).drop (pos key l * 3) = rowCells (l.drop (pos key l)) from flat_drop Rw.enc 3 (fun _ => rfl) l _, show (rowCells (l.drop (pos key l))).take _ = rowCells _ from flat_take Rw.enc 3 (fun _ => rfl) _ _, if_pos hci, show c - pos key l = 0 by omega] at hcl
  have CL := Asd.mk hcl
  have RW := Asd.mk hrows
  clear hcl hrows
  have hle : pos key l = l.length := by omega
  have hce : c = l.length := by omega
  have hm0 : (0 : Int) < (mn : Int) := by omega
  have hm0' : 0 < mn := by omega
  have hw0 : IntKind.i64.wrap (l.length : Int) = (l.length : Int) := IntWalk.i64_in _ (by omega)
  have hz : IntKind.i64.wrap 0 = 0 := rfl
  have hAT := AT.out
  have hCL := CL.out
  have hRW := RW.out
  simp only [hle, Nat.sub_self] at hAT hCL hRW
  clear RW
  have RW := Asd.mk hRW
  clear hRW
  have AT2 := Asd.mk hAT
  have CL2 := Asd.mk hCL
  have HLE := Asd.mk hle
  clear hl4 hpl hAT hCL hle hmin hci AT CL HW
  subst hce
  go_enter Try.func43, Try.ntmps43
  go_wp2_with fail
  refine (AT2.out _ (((Below.refl _ _).alloc (Nat.le_refl _) _).alloc (by simp) _)).mono ?_
  rintro e w1 ⟨rfl, hb1⟩
  obtain ⟨hc1, hf1⟩ := bcell hb1
  have hs1 : w.heap.size + 1 < w1.heap.size := by have := hb1.size; simp at this; omega
  have hB : Below w.heap.size w w1 := (((Below.refl _ _).alloc (Nat.le_refl _) _).alloc (by simp) _).trans (hb1.mono (by simp; omega))
  have hres : IsT w1 (w.heap.size + 1) 47 := ⟨_, _, (hb1.block _ (by simp)).trans (by simpa using heap_alloc_new (w.alloc _) _)⟩
  have RES := Asd.mk hres
  clear hres
  have TB := Asd.mk (H.out.below hB)
  have hcg := TB.out.cell
  have BB := Asd.mk hB
  clear hB hb1
  go_wp2_with fail
  go_region_with (go_at_call 45; refine (CL2.out _ BB.out.drew).mono ?_; rintro e w2 ⟨A2, c2, rfl, h1, h2, h3⟩; obtain ⟨hc2, hf2⟩ := bcell (W := w1) (w1 := w2) ⟨h3.os, h3.tape, h3.output, h3.size, h3.block⟩; have hs2 : w.heap.size + 1 < w2.heap.size := (by have := h3.size; simp at this; omega); have F := Asd.mk (And.intro h1 (And.intro h2 h3)); clear h1 h2 h3)
  all_goals
    go_wp2
    refine bodyPost_ret (v := Res.raw ⟨0, 0, ⟨#[]⟩, []⟩ A2 0 c2) (by simp [results, Try.results43, go_sem, Res.raw, hc1, hc2, hs1, hs2]) rfl ?_
    rw [← P.out, RW.out]
    obtain ⟨q1, q2, q3⟩ := F.out
    have q4 : Below w1.heap.size w1 w2 := ⟨q3.os, q3.tape, q3.output, q3.size, q3.block⟩
    have hr2 := RES.out.of_block (q4.block _ hs1)
    have hbr : base ≤ w.heap.size + 1 := by have := H.out.ge; omega
    have hB2 := BB.out.trans (q4.mono (by omega))
    refine ⟨A2, _, c2, rfl, ?_, ⟨A, _, (H.out.below hB2).set4 hr2 (by decide) (by decide) hbr _ _ _ _, .inl rfl, .inr rfl⟩, q1.set4 hr2 (by decide) hbr _ _ _ _, own_set4 (own_le q2 (by have := BB.out.size; simpa using this)) hr2 (by decide) _ _ _ _⟩
    exact gb_set (gb_set (gb_set (gb_set (gb_below hB2 _) (by simp) _) (by simp) _) (by simp) _) (by simp) _

end Go.Proofs.Ytlhjfblpinpjiaa

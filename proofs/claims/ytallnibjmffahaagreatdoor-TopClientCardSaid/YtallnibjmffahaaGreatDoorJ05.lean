/- The table's reads: the ends of a span, the rows of a span. One operation of a table: words. One operation of a table. One operation of a table: kind 5. One operation of a table: kind 4. -/
import Derived.Test.YtallnibjmffahaaGreatDoorJ03
import Derived.Test.YtallnibjmffahaaGreatDoorJ04
set_option linter.unusedVariables false
set_option linter.unusedSimpArgs false
namespace Go.Proofs.YtallnibjmffahaaGreatDoor
open Go.RowKit

structure SpanR where
  from_ : ByteArray
  to_ : ByteArray
def SpanR.enc (s : SpanR) : List Value := [.string s.from_, .string s.to_]

theorem tup2 {a a' b b' : Int} (h1 : a = a') (h2 : b = b') : Ending.returned (.tuple #[.int .i64 a, .int .i64 b]) = Ending.returned (.tuple #[.int .i64 a', .int .i64 b']) := by rw [h1, h2]

/-- Where a span's rows begin and end. -/
def endsP (l : List Rw) (s : SpanR) : Nat × Nat :=
  (pos s.from_ l, max (pos s.from_ l) (if s.to_.size = 0 then l.length else pos s.to_ l))
theorem endsP_le (l : List Rw) (s : SpanR) : (endsP l s).1 ≤ (endsP l s).2 ∧ (endsP l s).2 ≤ l.length := by
  unfold endsP
  have h1 := pos_le s.from_ l
  have h2 := pos_le s.to_ l
  dsimp only
  split <;> omega

/-- The rows of a span. -/
def rowsP (l : List Rw) (s : SpanR) : List Rw := (l.drop (endsP l s).1).take ((endsP l s).2 - (endsP l s).1)
theorem rowsP_len (l : List Rw) (s : SpanR) : (rowsP l s).length = (endsP l s).2 - (endsP l s).1 := by
  have := endsP_le l s
  simp [rowsP]
  omega

end Go.Proofs.YtallnibjmffahaaGreatDoor

set_option linter.unusedVariables false
set_option linter.unusedSimpArgs false
namespace Go.Proofs.YtallnibjmffahaaGreatDoor
open Go.RowKit

theorem own_set {w : World} {b e k n : Nat} {v : Value} {xs : List Value} (h : w.ownsRow b e k v n xs) {p : Addr} {U : TypeId} (hT : IsT w p.block U) (hU : U ≠ e) (u : Value) : (w.setCell p u).ownsRow b e k v n xs := by
  refine ⟨h.1, ?_⟩
  rcases h.2 with hn | ⟨g, cap, cur, rfl, hb, hgg, rest⟩
  · exact .inl hn
  · refine .inr ⟨g, cap, cur, rfl, hb, ?_, rest⟩
    obtain ⟨cs, fr, hc⟩ := hT
    rw [Below.heap_setCell w p u g (by
      rintro rfl
      rw [hgg] at hc
      injection hc with hc
      injection hc with _ hc
      exact hU hc.symm)]
    exact hgg
theorem own_le {w : World} {b b' e k n : Nat} {v : Value} {xs : List Value} (h : w.ownsRow b e k v n xs) (hb : b' ≤ b) : w.ownsRow b' e k v n xs :=
  ⟨h.1, h.2.imp id fun ⟨g, cap, cur, h1, h2, h3⟩ => ⟨g, cap, cur, h1, Nat.le_trans hb h2, h3⟩⟩
theorem own_set4 {w : World} {b e k n : Nat} {v : Value} {xs : List Value} (h : w.ownsRow b e k v n xs) {r : Nat} {U : TypeId} (hT : IsT w r U) (hU : U ≠ e) (u0 u1 u2 u3 : Value) :
    ((((w.setCell ⟨r, 0, none⟩ u0).setCell ⟨r, 1, none⟩ u1).setCell ⟨r, 2, none⟩ u2).setCell ⟨r, 3, none⟩ u3).ownsRow b e k v n xs :=
  own_set (own_set (own_set (own_set h (p := ⟨r, 0, none⟩) hT hU u0) (p := ⟨r, 1, none⟩) (hT.set _ _) hU u1) (p := ⟨r, 2, none⟩) ((hT.set _ _).set _ _) hU u2) (p := ⟨r, 3, none⟩) (((hT.set _ _).set _ _).set _ _) hU u3
theorem Rd.set {base T : Nat} {w : World} {k n c : Nat} {A : Option Addr} {xs : List Value} (h : Rd base T w k A n c xs) {p : Addr} {U : TypeId} (hT : IsT w p.block U) (hU : U ≠ T) (hge : base ≤ p.block) (u : Value) : Rd base T (w.setCell p u) k A n c xs := by
  obtain ⟨cs, fr, e⟩ := hT
  exact h.setCell e hU hge u
theorem Rd.set4 {base T : Nat} {w : World} {k n c : Nat} {A : Option Addr} {xs : List Value} (h : Rd base T w k A n c xs) {r : Nat} {U : TypeId} (hT : IsT w r U) (hU : U ≠ T) (hge : base ≤ r) (u0 u1 u2 u3 : Value) :
    Rd base T ((((w.setCell ⟨r, 0, none⟩ u0).setCell ⟨r, 1, none⟩ u1).setCell ⟨r, 2, none⟩ u2).setCell ⟨r, 3, none⟩ u3) k A n c xs :=
  (((h.set (p := ⟨r, 0, none⟩) hT hU hge u0).set (p := ⟨r, 1, none⟩) (hT.set _ _) hU hge u1).set (p := ⟨r, 2, none⟩) ((hT.set _ _).set _ _) hU hge u2).set (p := ⟨r, 3, none⟩) (((hT.set _ _).set _ _).set _ _) hU hge u3

/-- What a result looks like, its rows at A1, n1, c1. -/
def Res.raw (r : Res) (A1 : Option Addr) (n1 c1 : Nat) : Value := .agg #[.int .i64 r.code, .int .i64 r.stamp, .string r.val, .slice A1 n1 c1]
def OnePost (base : Nat) (w : World) (A : Option Addr) (g : Nat) (p : List Rw × Res) (e : Ending) (w' : World) : Prop :=
  ∃ A1 n1 c1, e = .returned (p.2.raw A1 n1 c1) ∧ w.grownBy w' (some g) ∧ (∃ A' c', Tab base w' g p.1 A' c' ∧ Fr w A A' ∧ (A1 = none ∨ A' = A)) ∧ Rd base 131 w' 3 A1 n1 c1 (rowCells p.2.rows) ∧ w'.ownsRow w.heap.size 131 3 (.slice A1 n1 c1) n1 (rowCells p.2.rows)

theorem OnePost.flat {base g : Nat} {A : Option Addr} {w w' : World} {l : List Rw} {r : Res} {e : Ending} (he : e = .returned r.flat) (hr : r.rows = []) (hg : w.grownBy w' (some g)) (ht : ∃ A' c', Tab base w' g l A' c' ∧ Fr w A A') : OnePost base w A g (l, r) e w' := by
  obtain ⟨A', c', h1, h2⟩ := ht
  refine ⟨none, 0, 0, he, hg, ⟨A', c', h1, h2, .inl rfl⟩, ?_, ?_⟩
  · rw [show (l, r).2.rows = [] from hr]; exact Rd.none_
  · rw [show (l, r).2.rows = [] from hr]; exact World.ownsRow_nil _ _ _ _

theorem one_fin {base g c : Nat} {w w2 : World} {l : List Rw} {A : Option Addr} (h : Tab base w g l A c) (hb : Below w.heap.size w w2) (hT : IsT w2 (w.heap.size + 1) 81) (r : Res) (hr : r.rows = []) (u0 u1 u2 u3 : Value) :
    OnePost base w A g (l, r) (.returned r.flat) ((((w2.setCell ⟨w.heap.size + 1, 0, none⟩ u0).setCell ⟨w.heap.size + 1, 1, none⟩ u1).setCell ⟨w.heap.size + 1, 2, none⟩ u2).setCell ⟨w.heap.size + 1, 3, none⟩ u3) :=
  OnePost.flat rfl hr (gb_set (gb_set (gb_set (gb_set (gb_below hb _) (by simp) _) (by simp) _) (by simp) _) (by simp) _) ⟨A, _, (h.below hb).set4 hT (by decide) (by decide) (by have := h.ge; have := h.lt; omega) _ _ _ _, .inl rfl⟩

end Go.Proofs.YtallnibjmffahaaGreatDoor

set_option linter.unusedVariables false
set_option linter.unusedSimpArgs false
namespace Go.Proofs.YtallnibjmffahaaGreatDoor
open Go.RowKit

set_option maxHeartbeats 4000000 in
set_option maxRecDepth 100000 in
theorem one6a_calls {base g c : Nat} {w : World} {l : List Rw} {A : Option Addr} (h : Tab base w g l A c) (x : OpR) (hmin0 : x.most.toNat ≤ l.length - pos x.key l) (hv : x.val.size ≤ 9223372036854775807) (h6 : x.kind = 6) (hm : x.kind = 6 → 1 ≤ x.most ∧ x.most ≤ 100) :
    Calls Tryz.prog 58 #[.pointer (some ⟨g, 0, none⟩), .agg x.enc.toArray] w (OnePost base w A g (oneP l x)) := by
  obtain ⟨kind, key, val, stamp, test, most⟩ := x
  simp only at hv hm h6 hmin0
  generalize hp : oneP l ⟨kind, key, val, stamp, test, most⟩ = p
  have P := Asd.mk hp
  clear hp
  unfold OpR.enc at *
  have H := Asd.mk h
  have hat := fun (W : World) (hb : Below w.heap.size w W) => at_calls (h.below hb) key
  have AT := Asd.mk hat
  have hgl := h.lt
  clear h hat
  subst h6
  obtain ⟨hm1, hm2⟩ := hm rfl
  clear hm
  have hpl := pos_le key l
  have hcl := H.out.rd.cap
  have hl4 := H.out.big
  obtain ⟨mn, rfl⟩ : ∃ mn : Nat, most = mn := ⟨most.toNat, by omega⟩
  have hw1 : IntKind.i64.wrap ((l.length : Int) - (pos key l : Int)) = ((l.length - pos key l : Nat) : Int) := by
    rw [IntWalk.i64_in _ (by omega)]; omega
  have HW := Asd.mk hw1
  clear hw1
  have hmin : mn ≤ l.length - pos key l := by simpa using hmin0
  have hci : ¬ c = pos key l := by omega
  have hrows : (oneP l ⟨6, key, val, stamp, test, (mn : Int)⟩) = (l, ⟨0, 0, ⟨#[]⟩, (l.drop (pos key l)).take mn⟩) := by
    have : (min (mn : Int) ((l.length : Int) - (pos key l : Int))).toNat = mn := by omega
    simp [oneP, this]
  have hcl := fun (W : World) (hb : Below w.heap.size w W) => Clone_row (base := base) W _ _ _ _ ((H.out.below hb).rd.cut (lo := pos key l) (hi := (pos key l + mn)) (c' := c) (by omega) (by omega) (by omega) (Nat.le_refl _)) (by
    rw [show (rowCells l).drop (pos key l * 3) = rowCells (l.drop (pos key l)) from flat_drop Rw.enc 3 (fun _ => rfl) l _, show (rowCells (l.drop (pos key l))).take _ = rowCells _ from flat_take Rw.enc 3 (fun _ => rfl) _ _]
    exact row_one _) (by omega)
  rw [show (rowCells l).drop (pos key l * 3) = rowCells (l.drop (pos key l)) from flat_drop Rw.enc 3 (fun _ => rfl) l _, show (rowCells (l.drop (pos key l))).take _ = rowCells _ from flat_take Rw.enc 3 (fun _ => rfl) _ _, Nat.add_sub_cancel_left, if_neg hci] at hcl
  have CL := Asd.mk hcl
  have RW := Asd.mk hrows
  clear hcl hrows
  have hmin' : ¬ (l.length - pos key l < mn) := by omega
  have hw2 : IntKind.i64.wrap ((pos key l : Int) + (mn : Int)) = ((pos key l + mn : Nat) : Int) := by
    rw [IntWalk.i64_in _ (by omega)]; omega
  have f1 : (0 : Int) ≤ (pos key l : Int) + (mn : Int) := by omega
  have f2 : (pos key l : Int) + (mn : Int) ≤ (c : Int) := by omega
  have f3 : ((pos key l : Int) + (mn : Int)).toNat = pos key l + mn := by omega
  clear hl4
  have hw1 := HW.out
  go_enter Tryz.func58, Tryz.ntmps58
  go_wp2_with fail
  refine (AT.out _ (((Below.refl _ _).alloc (Nat.le_refl _) _).alloc (by simp) _)).mono ?_
  rintro e w1 ⟨rfl, hb1⟩
  obtain ⟨hc1, hf1⟩ := bcell hb1
  have hs1 : w.heap.size + 1 < w1.heap.size := by have := hb1.size; simp at this; omega
  have hB : Below w.heap.size w w1 := (((Below.refl _ _).alloc (Nat.le_refl _) _).alloc (by simp) _).trans (hb1.mono (by simp; omega))
  have hres : IsT w1 (w.heap.size + 1) 81 := ⟨_, _, (hb1.block _ (by simp)).trans (by simpa using heap_alloc_new (w.alloc _) _)⟩
  have RES := Asd.mk hres
  clear hres
  have TB := Asd.mk (H.out.below hB)
  have hcg := TB.out.cell
  have BB := Asd.mk hB
  clear hB hb1
  go_wp2_with fail
  go_region_with (go_at_call 73; refine (CL.out _ BB.out.drew).mono ?_; rintro e w2 ⟨A2, c2, rfl, h1, h2, h3⟩; obtain ⟨hc2, hf2⟩ := bcell (W := w1) (w1 := w2) ⟨h3.os, h3.tape, h3.output, h3.size, h3.block⟩; have hs2 : w.heap.size + 1 < w2.heap.size := (by have := h3.size; simp at this; omega); have F := Asd.mk (And.intro h1 (And.intro h2 h3)); clear h1 h2 h3)
  all_goals
    go_wp2
    refine bodyPost_ret (v := Res.raw ⟨0, 0, ⟨#[]⟩, []⟩ A2 mn c2) (by simp [results, Tryz.results58, go_sem, Res.raw, hc1, hc2, hs1, hs2]) rfl ?_
    rw [← P.out, RW.out]
    obtain ⟨q1, q2, q3⟩ := F.out
    have q4 : Below w1.heap.size w1 w2 := ⟨q3.os, q3.tape, q3.output, q3.size, q3.block⟩
    have hr2 := RES.out.of_block (q4.block _ hs1)
    have hbr : base ≤ w.heap.size + 1 := by have := H.out.ge; omega
    have hB2 := BB.out.trans (q4.mono (by omega))
    refine ⟨A2, _, c2, rfl, ?_, ⟨A, _, (H.out.below hB2).set4 hr2 (by decide) (by decide) hbr _ _ _ _, .inl rfl, .inr rfl⟩, q1.set4 hr2 (by decide) hbr _ _ _ _, own_set4 (own_le q2 (by have := BB.out.size; simpa using this)) hr2 (by decide) _ _ _ _⟩
    exact gb_set (gb_set (gb_set (gb_set (gb_below hB2 _) (by simp) _) (by simp) _) (by simp) _) (by simp) _

end Go.Proofs.YtallnibjmffahaaGreatDoor

set_option linter.unusedVariables false
set_option linter.unusedSimpArgs false
namespace Go.Proofs.YtallnibjmffahaaGreatDoor
open Go.RowKit

set_option maxHeartbeats 8000000 in
set_option maxRecDepth 100000 in
theorem one5_calls {base g c : Nat} {w : World} {l : List Rw} {A : Option Addr} (h : Tab base w g l A c) (x : OpR) (hv : x.val.size ≤ 9223372036854775807) (h6 : x.kind = 5) :
    Calls Tryz.prog 58 #[.pointer (some ⟨g, 0, none⟩), .agg x.enc.toArray] w (OnePost base w A g (oneP l x)) := by
  obtain ⟨kind, key, val, stamp, test, most⟩ := x
  simp only at hv h6
  subst h6
  generalize hp : oneP l ⟨5, key, val, stamp, test, most⟩ = p
  have P := Asd.mk hp
  clear hp
  unfold OpR.enc at *
  have H := Asd.mk h
  have hat := fun (W : World) (hb : Below w.heap.size w W) => at_calls (h.below hb) key
  have AT := Asd.mk hat
  have hgl := h.lt
  clear h hat
  cases ht : there key l with
  | false =>
    have T := Asd.mk ht
    have RA := Asd.mk True.intro
    clear ht
    go_enter Tryz.func58, Tryz.ntmps58
    go_wp2_with fail
    refine (AT.out _ (((Below.refl _ _).alloc (Nat.le_refl _) _).alloc (by simp) _)).mono ?_
    rw [T.out]
    rintro e w1 ⟨rfl, hb1⟩
    obtain ⟨hc1, hf1⟩ := bcell hb1
    have hs1 : w.heap.size + 1 < w1.heap.size := by have := hb1.size; simp at this; omega
    have hs0 : w.heap.size < w1.heap.size := by omega
    have hB : Below w.heap.size w w1 := (((Below.refl _ _).alloc (Nat.le_refl _) _).alloc (by simp) _).trans (hb1.mono (by simp; omega))
    have hres : IsT w1 (w.heap.size + 1) 81 := ⟨_, _, (hb1.block _ (by simp)).trans (by simpa using heap_alloc_new (w.alloc _) _)⟩
    have RES := Asd.mk hres
    clear hres
    have TB := Asd.mk (H.out.below hB)
    have hcg := TB.out.cell
    have BB := Asd.mk hB
    clear hB hb1
    go_wp2_with fail
    refine (refused_calls _ _ _).mono ?_
    rintro e w2 ⟨rfl, hb2⟩
    have hw2 : Below w1.heap.size w1 w2 := by first | exact hb2 | exact ((Below.refl _ _).alloc (Nat.le_refl _) _).trans (hb2.mono (by simp))
    obtain ⟨hc2, hf2⟩ := bcell hw2
    have hs2 : w.heap.size + 1 < w2.heap.size := by have := hw2.size; omega
    have B2 := Asd.mk hw2
    clear hb2 hw2
    go_wp2_with fail
    refine bodyPost_ret (v := Res.flat ⟨91, 0, ⟨#[]⟩, []⟩) (by simp [results, Tryz.results58, go_sem, Res.flat, hc1, hc2, hs0, hs1, hs2]) rfl ?_
    rw [← P.out, show oneP l _ = (l, ⟨91, 0, ⟨#[]⟩, []⟩) from by simp [oneP, T.out, Res.fail, RA.out, ]]
    exact one_fin H.out (BB.out.trans (B2.out.mono (by omega))) (RES.out.of_block (B2.out.block _ hs1)) _ rfl _ _ _ _
  | true =>
    obtain ⟨hpl, hpk⟩ := pos_lt H.out.srt ht
    have T := Asd.mk ht
    have hpc : (pos key l : Int) < (l.length : Int) := by omega
    have wr : wrap64 ((pos key l : Int) + 1) = ((pos key l + 1 : Nat) : Int) := by have := H.out.big; unfold wrap64; omega
    have RA := Asd.mk (rowAt_eq hpl)
    generalize hs : l[pos key l] = r at RA
    have SS := Asd.mk hs
    clear hs hpk ht
    by_cases h4 : test = 0
    · subst h4
      go_enter Tryz.func58, Tryz.ntmps58
      go_wp2_with fail
      refine (AT.out _ (((Below.refl _ _).alloc (Nat.le_refl _) _).alloc (by simp) _)).mono ?_
      rw [T.out]
      rintro e w1 ⟨rfl, hb1⟩
      obtain ⟨hc1, hf1⟩ := bcell hb1
      have hs1 : w.heap.size + 1 < w1.heap.size := by have := hb1.size; simp at this; omega
      have hs0 : w.heap.size < w1.heap.size := by omega
      have hB : Below w.heap.size w w1 := (((Below.refl _ _).alloc (Nat.le_refl _) _).alloc (by simp) _).trans (hb1.mono (by simp; omega))
      have hres : IsT w1 (w.heap.size + 1) 81 := ⟨_, _, (hb1.block _ (by simp)).trans (by simpa using heap_alloc_new (w.alloc _) _)⟩
      have RES := Asd.mk hres
      clear hres
      have TB := Asd.mk (H.out.below hB)
      have hcg := TB.out.cell
      obtain ⟨b, off, rfl, hbl, hl, c0, c1, c2⟩ := TB.out.rd.row (i := pos key l) hpl
      rw [SS.out] at c0 c1 c2
      have BB := Asd.mk hB
      clear hB hb1
      go_wp2_with fail
      refine bodyPost_ret (v := Res.flat ⟨0, r.stamp, r.val, []⟩) (by simp [results, Tryz.results58, go_sem, Res.flat, hc1, hs0, hs1]) rfl ?_
      rw [← P.out, show oneP l _ = (l, ⟨0, r.stamp, r.val, []⟩) from by simp [oneP, T.out, Res.fail, RA.out, ]]
      exact OnePost.flat rfl rfl (gb_trans (gb_set (gb_set (gb_set (gb_set (gb_below BB.out _) (by simp) _) (by simp) _) (by simp) _) (by simp) _) (gb_below ((Below.refl _ _).alloc (Nat.le_refl _) _) _)) ⟨_, _, ((H.out.below BB.out).set4 RES.out (by decide) (by decide) (by have := H.out.ge; omega) _ _ _ _).below ((Below.refl _ _).alloc (Nat.le_refl _) _), .inl rfl⟩
    · have q1 : (test == 0) = false := by simpa using h4
      have q1' : (test != 0) = true := by simpa using h4
      by_cases h2 : test = r.stamp
      · subst h2
        go_enter Tryz.func58, Tryz.ntmps58
        go_wp2_with fail
        refine (AT.out _ (((Below.refl _ _).alloc (Nat.le_refl _) _).alloc (by simp) _)).mono ?_
        rw [T.out]
        rintro e w1 ⟨rfl, hb1⟩
        obtain ⟨hc1, hf1⟩ := bcell hb1
        have hs1 : w.heap.size + 1 < w1.heap.size := by have := hb1.size; simp at this; omega
        have hs0 : w.heap.size < w1.heap.size := by omega
        have hB : Below w.heap.size w w1 := (((Below.refl _ _).alloc (Nat.le_refl _) _).alloc (by simp) _).trans (hb1.mono (by simp; omega))
        have hres : IsT w1 (w.heap.size + 1) 81 := ⟨_, _, (hb1.block _ (by simp)).trans (by simpa using heap_alloc_new (w.alloc _) _)⟩
        have RES := Asd.mk hres
        clear hres
        have TB := Asd.mk (H.out.below hB)
        have hcg := TB.out.cell
        obtain ⟨b, off, rfl, hbl, hl, c0, c1, c2⟩ := TB.out.rd.row (i := pos key l) hpl
        rw [SS.out] at c0 c1 c2
        have BB := Asd.mk hB
        clear hB hb1
        go_wp2_with fail
        refine bodyPost_ret (v := Res.flat ⟨0, r.stamp, r.val, []⟩) (by simp [results, Tryz.results58, go_sem, Res.flat, hc1, hs0, hs1]) rfl ?_
        rw [← P.out, show oneP l _ = (l, ⟨0, r.stamp, r.val, []⟩) from by simp [oneP, T.out, Res.fail, RA.out, ]]
        exact OnePost.flat rfl rfl (gb_trans (gb_set (gb_set (gb_set (gb_set (gb_below BB.out _) (by simp) _) (by simp) _) (by simp) _) (by simp) _) (gb_below ((Below.refl _ _).alloc (Nat.le_refl _) _) _)) ⟨_, _, ((H.out.below BB.out).set4 RES.out (by decide) (by decide) (by have := H.out.ge; omega) _ _ _ _).below ((Below.refl _ _).alloc (Nat.le_refl _) _), .inl rfl⟩
      · have q2 : (test == r.stamp) = false := by simpa using h2
        have q2' : (test != r.stamp) = true := by simpa using h2
        go_enter Tryz.func58, Tryz.ntmps58
        go_wp2_with fail
        refine (AT.out _ (((Below.refl _ _).alloc (Nat.le_refl _) _).alloc (by simp) _)).mono ?_
        rw [T.out]
        rintro e w1 ⟨rfl, hb1⟩
        obtain ⟨hc1, hf1⟩ := bcell hb1
        have hs1 : w.heap.size + 1 < w1.heap.size := by have := hb1.size; simp at this; omega
        have hs0 : w.heap.size < w1.heap.size := by omega
        have hB : Below w.heap.size w w1 := (((Below.refl _ _).alloc (Nat.le_refl _) _).alloc (by simp) _).trans (hb1.mono (by simp; omega))
        have hres : IsT w1 (w.heap.size + 1) 81 := ⟨_, _, (hb1.block _ (by simp)).trans (by simpa using heap_alloc_new (w.alloc _) _)⟩
        have RES := Asd.mk hres
        clear hres
        have TB := Asd.mk (H.out.below hB)
        have hcg := TB.out.cell
        obtain ⟨b, off, rfl, hbl, hl, c0, c1, c2⟩ := TB.out.rd.row (i := pos key l) hpl
        rw [SS.out] at c0 c1 c2
        have BB := Asd.mk hB
        clear hB hb1
        go_wp2_with fail
        refine (refused_calls _ _ _).mono ?_
        rintro e w2 ⟨rfl, hb2⟩
        have hw2 : Below w1.heap.size w1 w2 := by first | exact hb2 | exact ((Below.refl _ _).alloc (Nat.le_refl _) _).trans (hb2.mono (by simp))
        obtain ⟨hc2, hf2⟩ := bcell hw2
        have hs2 : w.heap.size + 1 < w2.heap.size := by have := hw2.size; omega
        have B2 := Asd.mk hw2
        clear hb2 hw2
        go_wp2_with fail
        refine bodyPost_ret (v := Res.flat ⟨92, r.stamp, ⟨#[]⟩, []⟩) (by simp [results, Tryz.results58, go_sem, Res.flat, hc1, hc2, hs0, hs1, hs2]) rfl ?_
        rw [← P.out, show oneP l _ = (l, ⟨92, r.stamp, ⟨#[]⟩, []⟩) from by simp [oneP, T.out, Res.fail, RA.out, h4, h2]]
        exact one_fin H.out (BB.out.trans (B2.out.mono (by omega))) (RES.out.of_block (B2.out.block _ hs1)) _ rfl _ _ _ _

end Go.Proofs.YtallnibjmffahaaGreatDoor

set_option linter.unusedVariables false
set_option linter.unusedSimpArgs false
namespace Go.Proofs.YtallnibjmffahaaGreatDoor
open Go.RowKit

set_option maxHeartbeats 8000000 in
set_option maxRecDepth 100000 in
theorem one4_calls {base g c : Nat} {w : World} {l : List Rw} {A : Option Addr} (h : Tab base w g l A c) (x : OpR) (hv : x.val.size ≤ 9223372036854775807) (h6 : x.kind = 4) :
    Calls Tryz.prog 58 #[.pointer (some ⟨g, 0, none⟩), .agg x.enc.toArray] w (OnePost base w A g (oneP l x)) := by
  obtain ⟨kind, key, val, stamp, test, most⟩ := x
  simp only at hv h6
  subst h6
  generalize hp : oneP l ⟨4, key, val, stamp, test, most⟩ = p
  have P := Asd.mk hp
  clear hp
  unfold OpR.enc at *
  have H := Asd.mk h
  have hat := fun (W : World) (hb : Below w.heap.size w W) => at_calls (h.below hb) key
  have AT := Asd.mk hat
  have hgl := h.lt
  clear h hat
  cases ht : there key l with
  | false =>
    have T := Asd.mk ht
    have RA := Asd.mk True.intro
    clear ht
    go_enter Tryz.func58, Tryz.ntmps58
    go_wp2_with fail
    refine (AT.out _ (((Below.refl _ _).alloc (Nat.le_refl _) _).alloc (by simp) _)).mono ?_
    rw [T.out]
    rintro e w1 ⟨rfl, hb1⟩
    obtain ⟨hc1, hf1⟩ := bcell hb1
    have hs1 : w.heap.size + 1 < w1.heap.size := by have := hb1.size; simp at this; omega
    have hs0 : w.heap.size < w1.heap.size := by omega
    have hB : Below w.heap.size w w1 := (((Below.refl _ _).alloc (Nat.le_refl _) _).alloc (by simp) _).trans (hb1.mono (by simp; omega))
    have hres : IsT w1 (w.heap.size + 1) 81 := ⟨_, _, (hb1.block _ (by simp)).trans (by simpa using heap_alloc_new (w.alloc _) _)⟩
    have RES := Asd.mk hres
    clear hres
    have TB := Asd.mk (H.out.below hB)
    have hcg := TB.out.cell
    have BB := Asd.mk hB
    clear hB hb1
    go_wp2_with fail
    refine (refused_calls _ _ _).mono ?_
    rintro e w2 ⟨rfl, hb2⟩
    have hw2 : Below w1.heap.size w1 w2 := by first | exact hb2 | exact ((Below.refl _ _).alloc (Nat.le_refl _) _).trans (hb2.mono (by simp))
    obtain ⟨hc2, hf2⟩ := bcell hw2
    have hs2 : w.heap.size + 1 < w2.heap.size := by have := hw2.size; omega
    have B2 := Asd.mk hw2
    clear hb2 hw2
    go_wp2_with fail
    refine bodyPost_ret (v := Res.flat ⟨91, 0, ⟨#[]⟩, []⟩) (by simp [results, Tryz.results58, go_sem, Res.flat, hc1, hc2, hs0, hs1, hs2]) rfl ?_
    rw [← P.out, show oneP l _ = (l, ⟨91, 0, ⟨#[]⟩, []⟩) from by simp [oneP, T.out, Res.fail, RA.out, ]]
    exact one_fin H.out (BB.out.trans (B2.out.mono (by omega))) (RES.out.of_block (B2.out.block _ hs1)) _ rfl _ _ _ _
  | true =>
    obtain ⟨hpl, hpk⟩ := pos_lt H.out.srt ht
    have T := Asd.mk ht
    have hpc : (pos key l : Int) < (l.length : Int) := by omega
    have wr : wrap64 ((pos key l : Int) + 1) = ((pos key l + 1 : Nat) : Int) := by have := H.out.big; unfold wrap64; omega
    have RA := Asd.mk (rowAt_eq hpl)
    generalize hs : l[pos key l] = r at RA
    have SS := Asd.mk hs
    clear hs hpk ht
    by_cases h4 : test = 0
    · subst h4
      go_enter Tryz.func58, Tryz.ntmps58
      go_wp2_with fail
      refine (AT.out _ (((Below.refl _ _).alloc (Nat.le_refl _) _).alloc (by simp) _)).mono ?_
      rw [T.out]
      rintro e w1 ⟨rfl, hb1⟩
      obtain ⟨hc1, hf1⟩ := bcell hb1
      have hs1 : w.heap.size + 1 < w1.heap.size := by have := hb1.size; simp at this; omega
      have hs0 : w.heap.size < w1.heap.size := by omega
      have hB : Below w.heap.size w w1 := (((Below.refl _ _).alloc (Nat.le_refl _) _).alloc (by simp) _).trans (hb1.mono (by simp; omega))
      have hres : IsT w1 (w.heap.size + 1) 81 := ⟨_, _, (hb1.block _ (by simp)).trans (by simpa using heap_alloc_new (w.alloc _) _)⟩
      have RES := Asd.mk hres
      clear hres
      have TB := Asd.mk (H.out.below hB)
      have hcg := TB.out.cell
      obtain ⟨b, off, rfl, hbl, hl, c0, c1, c2⟩ := TB.out.rd.row (i := pos key l) hpl
      rw [SS.out] at c0 c1 c2
      have BB := Asd.mk hB
      clear hB hb1
      go_wp2_with fail
      refine (splice_calls (base := base) (A := some ⟨b, off, none⟩) (c := c) (l := l) (m := []) ?_ (pos key l) (pos key l + 1) (by omega) (by omega) _ _ _ Rd.none_ (by omega)).mono ?_
      · exact TB.out.below ((Below.refl _ _).alloc (Nat.le_refl _) _)
      · rintro e w3 ⟨rfl, hg3, A3, c3, hh3, hr3, hfr3, hlt3⟩
        have FR3 := Asd.mk (Fr.mono (w := w) hfr3 (by have := BB.out.size; simp; omega))
        have LT3 := Asd.mk hlt3
        clear hfr3 hlt3
        have hblk : ∀ b, b ≤ w1.heap.size → b ≠ g → w3.heap[b]? = (w1.alloc (.cells #[.string r.key, .int .i64 r.stamp, .string r.val] 131)).heap[b]? := fun b hb hne => hg3.block b (by simp; omega) (by simpa using hne)
        have hc3 : ∀ b o, b ≤ w1.heap.size → b ≠ g → w3.cell? ⟨b, o, none⟩ = (w1.alloc (.cells #[.string r.key, .int .i64 r.stamp, .string r.val] 131)).cell? ⟨b, o, none⟩ := fun b o hb hne => World.cell?_of_block (w := w1.alloc _) (hblk b hb hne)
        have hf3 : ∀ b o, b ≤ w1.heap.size → b ≠ g → w3.frozen? ⟨b, o, none⟩ = (w1.alloc (.cells #[.string r.key, .int .i64 r.stamp, .string r.val] 131)).frozen? ⟨b, o, none⟩ := fun b o hb hne => World.frozen?_of_block (w := w1.alloc _) (hblk b hb hne)
        have hs3 : w.heap.size + 1 < w3.heap.size := by have := hg3.size; simp at this; omega
        have hn1 : w.heap.size ≠ g := by omega
        have hn2 : w.heap.size + 1 ≠ g := by omega
        have hn3 : w1.heap.size ≠ g := by omega
        have hs4 : w.heap.size + 1 ≤ w1.heap.size := by omega
        have RE3 := Asd.mk ((RES.out.of_block (Below.heap_alloc w1 (.cells #[.string r.key, .int .i64 r.stamp, .string r.val] 131) _ hs1)).of_block (hblk _ hs4 hn2))
        have hG : w.grownBy w3 (some g) := gb_trans (gb_below BB.out _) (gb_trans (gb_below ((Below.refl _ _).alloc (Nat.le_refl _) _) _) hg3)
        have G3 := Asd.mk hG
        have HH := Asd.mk hh3
        have HR := Asd.mk hr3
        clear hG hg3 hh3 hr3 hblk
        go_wp2_with fail
        refine bodyPost_ret (v := Res.flat ⟨0, r.stamp, ⟨#[]⟩, []⟩) (by simp [results, Tryz.results58, go_sem, Res.flat, hc1, hc3, hs0, hs1, hs3, hs4, hn1, hn2, hn3]) rfl ?_
        have hsr := oneP_sorted H.out.srt ⟨4, key, val, stamp, 0, most⟩
        have hln := oneP_len H.out.srt H.out.big ⟨4, key, val, stamp, 0, most⟩
        have hpw : oneP l ⟨4, key, val, stamp, 0, most⟩ = (l.take (pos key l) ++ [] ++ l.drop (pos key l + 1), ⟨0, r.stamp, ⟨#[]⟩, []⟩) := by simp [oneP, T.out, Res.fail, RA.out, ]
        rw [hpw] at hsr hln
        rw [← P.out, hpw]
        refine OnePost.flat rfl rfl ?_ ⟨A3, c3, ?_, FR3.out⟩
        · repeat (first | exact G3.out | refine gb_set ?_ (by simp) _)
        · exact Tab.set4 ⟨HH.out, H.out.ge, HR.out, hsr, hln, LT3.out⟩ RE3.out (by decide) (by decide) (by have := H.out.ge; omega) _ _ _ _
    · have q1 : (test == 0) = false := by simpa using h4
      have q1' : (test != 0) = true := by simpa using h4
      by_cases h2 : test = r.stamp
      · subst h2
        go_enter Tryz.func58, Tryz.ntmps58
        go_wp2_with fail
        refine (AT.out _ (((Below.refl _ _).alloc (Nat.le_refl _) _).alloc (by simp) _)).mono ?_
        rw [T.out]
        rintro e w1 ⟨rfl, hb1⟩
        obtain ⟨hc1, hf1⟩ := bcell hb1
        have hs1 : w.heap.size + 1 < w1.heap.size := by have := hb1.size; simp at this; omega
        have hs0 : w.heap.size < w1.heap.size := by omega
        have hB : Below w.heap.size w w1 := (((Below.refl _ _).alloc (Nat.le_refl _) _).alloc (by simp) _).trans (hb1.mono (by simp; omega))
        have hres : IsT w1 (w.heap.size + 1) 81 := ⟨_, _, (hb1.block _ (by simp)).trans (by simpa using heap_alloc_new (w.alloc _) _)⟩
        have RES := Asd.mk hres
        clear hres
        have TB := Asd.mk (H.out.below hB)
        have hcg := TB.out.cell
        obtain ⟨b, off, rfl, hbl, hl, c0, c1, c2⟩ := TB.out.rd.row (i := pos key l) hpl
        rw [SS.out] at c0 c1 c2
        have BB := Asd.mk hB
        clear hB hb1
        go_wp2_with fail
        refine (splice_calls (base := base) (A := some ⟨b, off, none⟩) (c := c) (l := l) (m := []) ?_ (pos key l) (pos key l + 1) (by omega) (by omega) _ _ _ Rd.none_ (by omega)).mono ?_
        · exact TB.out.below ((Below.refl _ _).alloc (Nat.le_refl _) _)
        · rintro e w3 ⟨rfl, hg3, A3, c3, hh3, hr3, hfr3, hlt3⟩
          have FR3 := Asd.mk (Fr.mono (w := w) hfr3 (by have := BB.out.size; simp; omega))
          have LT3 := Asd.mk hlt3
          clear hfr3 hlt3
          have hblk : ∀ b, b ≤ w1.heap.size → b ≠ g → w3.heap[b]? = (w1.alloc (.cells #[.string r.key, .int .i64 r.stamp, .string r.val] 131)).heap[b]? := fun b hb hne => hg3.block b (by simp; omega) (by simpa using hne)
          have hc3 : ∀ b o, b ≤ w1.heap.size → b ≠ g → w3.cell? ⟨b, o, none⟩ = (w1.alloc (.cells #[.string r.key, .int .i64 r.stamp, .string r.val] 131)).cell? ⟨b, o, none⟩ := fun b o hb hne => World.cell?_of_block (w := w1.alloc _) (hblk b hb hne)
          have hf3 : ∀ b o, b ≤ w1.heap.size → b ≠ g → w3.frozen? ⟨b, o, none⟩ = (w1.alloc (.cells #[.string r.key, .int .i64 r.stamp, .string r.val] 131)).frozen? ⟨b, o, none⟩ := fun b o hb hne => World.frozen?_of_block (w := w1.alloc _) (hblk b hb hne)
          have hs3 : w.heap.size + 1 < w3.heap.size := by have := hg3.size; simp at this; omega
          have hn1 : w.heap.size ≠ g := by omega
          have hn2 : w.heap.size + 1 ≠ g := by omega
          have hn3 : w1.heap.size ≠ g := by omega
          have hs4 : w.heap.size + 1 ≤ w1.heap.size := by omega
          have RE3 := Asd.mk ((RES.out.of_block (Below.heap_alloc w1 (.cells #[.string r.key, .int .i64 r.stamp, .string r.val] 131) _ hs1)).of_block (hblk _ hs4 hn2))
          have hG : w.grownBy w3 (some g) := gb_trans (gb_below BB.out _) (gb_trans (gb_below ((Below.refl _ _).alloc (Nat.le_refl _) _) _) hg3)
          have G3 := Asd.mk hG
          have HH := Asd.mk hh3
          have HR := Asd.mk hr3
          clear hG hg3 hh3 hr3 hblk
          go_wp2_with fail
          refine bodyPost_ret (v := Res.flat ⟨0, r.stamp, ⟨#[]⟩, []⟩) (by simp [results, Tryz.results58, go_sem, Res.flat, hc1, hc3, hs0, hs1, hs3, hs4, hn1, hn2, hn3]) rfl ?_
          have hsr := oneP_sorted H.out.srt ⟨4, key, val, stamp, r.stamp, most⟩
          have hln := oneP_len H.out.srt H.out.big ⟨4, key, val, stamp, r.stamp, most⟩
          have hpw : oneP l ⟨4, key, val, stamp, r.stamp, most⟩ = (l.take (pos key l) ++ [] ++ l.drop (pos key l + 1), ⟨0, r.stamp, ⟨#[]⟩, []⟩) := by simp [oneP, T.out, Res.fail, RA.out, ]
          rw [hpw] at hsr hln
          rw [← P.out, hpw]
          refine OnePost.flat rfl rfl ?_ ⟨A3, c3, ?_, FR3.out⟩
          · repeat (first | exact G3.out | refine gb_set ?_ (by simp) _)
          · exact Tab.set4 ⟨HH.out, H.out.ge, HR.out, hsr, hln, LT3.out⟩ RE3.out (by decide) (by decide) (by have := H.out.ge; omega) _ _ _ _
      · have q2 : (test == r.stamp) = false := by simpa using h2
        have q2' : (test != r.stamp) = true := by simpa using h2
        go_enter Tryz.func58, Tryz.ntmps58
        go_wp2_with fail
        refine (AT.out _ (((Below.refl _ _).alloc (Nat.le_refl _) _).alloc (by simp) _)).mono ?_
        rw [T.out]
        rintro e w1 ⟨rfl, hb1⟩
        obtain ⟨hc1, hf1⟩ := bcell hb1
        have hs1 : w.heap.size + 1 < w1.heap.size := by have := hb1.size; simp at this; omega
        have hs0 : w.heap.size < w1.heap.size := by omega
        have hB : Below w.heap.size w w1 := (((Below.refl _ _).alloc (Nat.le_refl _) _).alloc (by simp) _).trans (hb1.mono (by simp; omega))
        have hres : IsT w1 (w.heap.size + 1) 81 := ⟨_, _, (hb1.block _ (by simp)).trans (by simpa using heap_alloc_new (w.alloc _) _)⟩
        have RES := Asd.mk hres
        clear hres
        have TB := Asd.mk (H.out.below hB)
        have hcg := TB.out.cell
        obtain ⟨b, off, rfl, hbl, hl, c0, c1, c2⟩ := TB.out.rd.row (i := pos key l) hpl
        rw [SS.out] at c0 c1 c2
        have BB := Asd.mk hB
        clear hB hb1
        go_wp2_with fail
        refine (refused_calls _ _ _).mono ?_
        rintro e w2 ⟨rfl, hb2⟩
        have hw2 : Below w1.heap.size w1 w2 := by first | exact hb2 | exact ((Below.refl _ _).alloc (Nat.le_refl _) _).trans (hb2.mono (by simp))
        obtain ⟨hc2, hf2⟩ := bcell hw2
        have hs2 : w.heap.size + 1 < w2.heap.size := by have := hw2.size; omega
        have B2 := Asd.mk hw2
        clear hb2 hw2
        go_wp2_with fail
        refine bodyPost_ret (v := Res.flat ⟨92, r.stamp, ⟨#[]⟩, []⟩) (by simp [results, Tryz.results58, go_sem, Res.flat, hc1, hc2, hs0, hs1, hs2]) rfl ?_
        rw [← P.out, show oneP l _ = (l, ⟨92, r.stamp, ⟨#[]⟩, []⟩) from by simp [oneP, T.out, Res.fail, RA.out, h4, h2]]
        exact one_fin H.out (BB.out.trans (B2.out.mono (by omega))) (RES.out.of_block (B2.out.block _ hs1)) _ rfl _ _ _ _

end Go.Proofs.YtallnibjmffahaaGreatDoor

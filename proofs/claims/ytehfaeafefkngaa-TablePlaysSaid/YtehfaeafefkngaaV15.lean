/- A call of both tables: Rows, Take, Drop. -/
import Derived.Test.YtehfaeafefkngaaV14
set_option linter.unusedVariables false
set_option linter.unusedSimpArgs false
namespace Go.Proofs.Ytehfaeafefkngaa
open Go.RowKit

set_option maxHeartbeats 16000000 in
set_option maxRecDepth 100000 in
theorem Step1 {base g gr c cr : Nat} {w : World} {l : List Rw} {A Ar : Option Addr} (hT : Tab base w g l A c) (hR : RTab base w gr l Ar cr) (a : ActR) (ha : ActIn base w a) (hkind : amongP a.kind 4 = 1) :
    Calls Try.prog 27 #[.pointer (some ⟨g, 0, none⟩), .pointer (some ⟨gr, 0, none⟩), .agg a.cs.toArray] w (StepPost base w g gr (stepP l a)) := by
  have AM : Asd (∀ W, Calls Try.prog 23 #[.int .i64 a.kind, .int .i64 4] W fun e w' => e = .returned (.int .i64 1) ∧ w' = W) := ⟨fun W => by
    have h := among_calls a.kind 4 (by omega) (by omega) W
    rwa [hkind] at h⟩
  obtain ⟨kind, ⟨qA, qn, qc⟩, ops, ⟨f, t⟩, ⟨pA, pn, pc⟩, rows⟩ := a
  obtain ⟨ha1, ha2, ha3, ha4⟩ := ha
  simp only at ha1 ha2 ha3 ha4 hkind AM
  have OPS := Asd.mk ha1
  have FIT := Asd.mk ha2
  have RWS := Asd.mk ha4
  have T := Asd.mk hT
  have R := Asd.mk hR
  have hge : base ≤ w.heap.size := by have h1 := hT.ge; have h2 := hT.lt; omega
  have hgl := hT.lt
  have hrl := hR.lt
  have hggr : g ≠ gr := IsT.ne (⟨_, _, hT.blk⟩ : IsT w g 71) (⟨_, _, hR.blk⟩ : IsT w gr 64) (by decide)
  have STP : Asd (stepP l ⟨kind, ⟨qA, qn, qc⟩, ops, ⟨f, t⟩, ⟨pA, pn, pc⟩, rows⟩ = l) := ⟨by unfold stepP; simp only; rw [hkind]; rfl⟩
  have hal : Below w.heap.size w (w.alloc (.cells #[.int .i64 kind, .slice qA qn qc, .string f, .string t, .slice pA pn pc] 66)) := (Below.refl _ _).alloc (Nat.le_refl _) _
  have B0 := Asd.mk hal
  have K0 : Asd ((w.alloc (.cells #[.int .i64 kind, .slice qA qn qc, .string f, .string t, .slice pA pn pc] 66)).heap[w.heap.size]? = some (.cells #[.int .i64 kind, .slice qA qn qc, .string f, .string t, .slice pA pn pc] 66 (0, 0))) := ⟨heap_alloc_new w _⟩
  have hz0 : w.heap.size < (w.alloc (.cells #[.int .i64 kind, .slice qA qn qc, .string f, .string t, .slice pA pn pc] 66)).heap.size := by simp
  clear hal ha1 ha2 ha4 hT hR hkind
  unfold ActR.cs
  go_enter Try.func27, Try.ntmps27
  go_wp2_with fail
  generalize (w.alloc (.cells #[.int .i64 kind, .slice qA qn qc, .string f, .string t, .slice pA pn pc] 66)) = w0 at *
  refine (AM.out _).mono ?_
  rintro e w1 ⟨rfl, rfl⟩
  have x2 : w1.cell? ⟨w.heap.size, 2, none⟩ = some (.string f) := cell_of_row _ _ 2 _ _ _ K0.out
  have x3 : w1.cell? ⟨w.heap.size, 3, none⟩ = some (.string t) := cell_of_row _ _ 3 _ _ _ K0.out
  have RC := Rows_calls (T.out.below B0.out) ⟨f, t⟩
  unfold SpanR.enc at RC
  have RCC := Asd.mk RC
  clear AM RC
  go_wp2_with fail
  refine RCC.out.mono ?_
  rintro e w2 ⟨A2, c2, rfl, hr2, ho2, hb2⟩
  have B2 := Asd.mk (B0.out.trans (hb2.mono B0.out.size))
  have K2 := (hb2.block _ hz0).trans K0.out
  have hz2 : w.heap.size < w2.heap.size := Nat.lt_of_lt_of_le hz0 hb2.size
  have y2 : w2.cell? ⟨w.heap.size, 2, none⟩ = some (.string f) := cell_of_row _ _ 2 _ _ _ K2
  have y3 : w2.cell? ⟨w.heap.size, 3, none⟩ = some (.string t) := cell_of_row _ _ 3 _ _ _ K2
  have O2 := Asd.mk ho2
  have RD2 := Asd.mk hr2
  have RC := RRows_calls (R.out.below B2.out) ⟨f, t⟩
  unfold SpanR.enc at RC
  have RCR := Asd.mk RC
  have LE : Asd ((rowsP l ⟨f, t⟩).length ≤ 4096) := ⟨by
    have h1 := rowsP_len l ⟨f, t⟩
    have h2 := (endsP_le l ⟨f, t⟩).2
    have h3 := T.out.big
    omega⟩
  generalize rowsP l ⟨f, t⟩ = rs at *
  clear hb2 K2 hr2 ho2 RC RCC x2 x3
  go_wp2_with fail
  refine RCR.out.mono ?_
  rintro e w3 ⟨A3, n3, c3, rfl, hb3, ho3⟩
  obtain ⟨_, _, e1, hx3⟩ := Rd.of_own (base := base) ho3
  injection e1 with e1 _ e2
  subst e1 e2
  have B3 := Asd.mk (B2.out.trans (hb3.mono B2.out.size))
  have O3 := Asd.mk (O2.out.kept (gb_below hb3 none) (by cases (Value.slice A2 rs.length c2).ownBlock <;> simp))
  have SM := Asd.mk (SameRows_calls (RD2.out.below hb3) hx3 (by have := LE.out; omega))
  rw [decide_eq_true rfl] at SM
  clear hb3 ho3 hx3 RCR y2 y3
  go_wp2_with fail
  refine SM.out.mono ?_
  rintro e w4 ⟨rfl, hb4⟩
  have B4 := Asd.mk (B3.out.trans (hb4.mono B3.out.size))
  have O4 := Asd.mk (O3.out.kept (gb_below hb4 none) (by cases (Value.slice A2 rs.length c2).ownBlock <;> simp))
  have SPL := Asd.mk (SpoilR_calls (Shp.own O4.out rfl))
  clear hb4 SM
  go_wp2_with fail
  refine SPL.out.mono ?_
  rintro e w5 ⟨rfl, hs⟩
  have hoT := own_isT O4.out
  have T5 := Asd.mk ((T.out.below B4.out).spr hs (fun b hb => (hoT b hb).1) (fun a b ha hb => by have h1 := T.out.old a ha; have h2 := (hoT b hb).2; have h3 := B0.out.size; omega))
  have R5 := Asd.mk ((R.out.below B4.out).spr hs (fun b hb => (hoT b hb).1) (fun a b ha hb => by have h1 := R.out.old a ha; have h2 := (hoT b hb).2; have h3 := B0.out.size; omega))
  have KE5 := Asd.mk (((Kept2.refl g gr w).below B4.out).spr hs (fun b hb => Nat.le_trans B0.out.size (hoT b hb).2))
  clear hs hoT SPL
  go_wp2_with fail
  go_ret
  rw [STP.out]
  exact ⟨rfl, KE5.out, ⟨_, _, T5.out⟩, ⟨_, _, R5.out⟩⟩
set_option maxHeartbeats 16000000 in
set_option maxRecDepth 100000 in
theorem Step3 {base g gr c cr : Nat} {w : World} {l : List Rw} {A Ar : Option Addr} (hT : Tab base w g l A c) (hR : RTab base w gr l Ar cr) (a : ActR) (ha : ActIn base w a) (hkind : amongP a.kind 4 = 3) :
    Calls Try.prog 27 #[.pointer (some ⟨g, 0, none⟩), .pointer (some ⟨gr, 0, none⟩), .agg a.cs.toArray] w (StepPost base w g gr (stepP l a)) := by
  have AM : Asd (∀ W, Calls Try.prog 23 #[.int .i64 a.kind, .int .i64 4] W fun e w' => e = .returned (.int .i64 3) ∧ w' = W) := ⟨fun W => by
    have h := among_calls a.kind 4 (by omega) (by omega) W
    rwa [hkind] at h⟩
  obtain ⟨kind, ⟨qA, qn, qc⟩, ops, ⟨f, t⟩, ⟨pA, pn, pc⟩, rows⟩ := a
  obtain ⟨ha1, ha2, ha3, ha4⟩ := ha
  simp only at ha1 ha2 ha3 ha4 hkind AM
  have OPS := Asd.mk ha1
  have FIT := Asd.mk ha2
  have RWS := Asd.mk ha4
  have T := Asd.mk hT
  have R := Asd.mk hR
  have hge : base ≤ w.heap.size := by have h1 := hT.ge; have h2 := hT.lt; omega
  have hgl := hT.lt
  have hrl := hR.lt
  have hggr : g ≠ gr := IsT.ne (⟨_, _, hT.blk⟩ : IsT w g 71) (⟨_, _, hR.blk⟩ : IsT w gr 64) (by decide)
  have STP : Asd (stepP l ⟨kind, ⟨qA, qn, qc⟩, ops, ⟨f, t⟩, ⟨pA, pn, pc⟩, rows⟩ = dropP l ⟨f, t⟩) := ⟨by unfold stepP; simp only; rw [hkind]; rfl⟩
  have hal : Below w.heap.size w (w.alloc (.cells #[.int .i64 kind, .slice qA qn qc, .string f, .string t, .slice pA pn pc] 66)) := (Below.refl _ _).alloc (Nat.le_refl _) _
  have B0 := Asd.mk hal
  have K0 : Asd ((w.alloc (.cells #[.int .i64 kind, .slice qA qn qc, .string f, .string t, .slice pA pn pc] 66)).heap[w.heap.size]? = some (.cells #[.int .i64 kind, .slice qA qn qc, .string f, .string t, .slice pA pn pc] 66 (0, 0))) := ⟨heap_alloc_new w _⟩
  have hz0 : w.heap.size < (w.alloc (.cells #[.int .i64 kind, .slice qA qn qc, .string f, .string t, .slice pA pn pc] 66)).heap.size := by simp
  clear hal ha1 ha2 ha4 hT hR hkind
  unfold ActR.cs
  go_enter Try.func27, Try.ntmps27
  go_wp2_with fail
  generalize (w.alloc (.cells #[.int .i64 kind, .slice qA qn qc, .string f, .string t, .slice pA pn pc] 66)) = w0 at *
  refine (AM.out _).mono ?_
  rintro e w1 ⟨rfl, rfl⟩
  have x2 : w1.cell? ⟨w.heap.size, 2, none⟩ = some (.string f) := cell_of_row _ _ 2 _ _ _ K0.out
  have x3 : w1.cell? ⟨w.heap.size, 3, none⟩ = some (.string t) := cell_of_row _ _ 3 _ _ _ K0.out
  have DC : Asd (∀ W, Below w.heap.size w W → Calls Try.prog 25 #[.pointer (some ⟨g, 0, none⟩), .agg #[.string f, .string t]] W fun e w' => e = .returned (.int .i64 (((endsP l ⟨f, t⟩).2 - (endsP l ⟨f, t⟩).1 : Nat) : Int)) ∧ W.grownBy w' (some g) ∧ ∃ A' c', Tab base w' g (dropP l ⟨f, t⟩) A' c' ∧ Fr W A A') := ⟨fun W hW => Drop_calls (T.out.below hW) ⟨f, t⟩⟩
  have DR : Asd (∀ W, RTab base W gr l Ar cr → Calls Try.prog 51 #[.pointer (some ⟨gr, 0, none⟩), .agg #[.string f, .string t]] W (RDropPost base W Ar gr (dropP l ⟨f, t⟩) (((endsP l ⟨f, t⟩).2 - (endsP l ⟨f, t⟩).1 : Nat) : Int))) := ⟨fun W hW => RDrop_calls hW ⟨f, t⟩⟩
  generalize (((endsP l ⟨f, t⟩).2 - (endsP l ⟨f, t⟩).1 : Nat) : Int) = dv at *
  clear AM
  go_wp2_with fail
  go_region_with (first
    | (go_at_call 25; refine (DC.out _ (B0.out.trans (((Below.refl w1.heap.size w1).drew).mono B0.out.size))).mono ?_; rintro e w2 ⟨rfl, hg2, A2, c2, hT2, _⟩; have G2 := Asd.mk (gb_trans (gb_below ((Below.refl w1.heap.size w1).drew) (some g)) hg2); have T2 := Asd.mk hT2; have k2 := (G2.out.block _ hz0 (by simp; omega)).trans K0.out; have z2 : w2.cell? ⟨w.heap.size, 2, none⟩ = some (.string f) := cell_of_row _ _ 2 _ _ _ k2; have z3 : w2.cell? ⟨w.heap.size, 3, none⟩ = some (.string t) := cell_of_row _ _ 3 _ _ _ k2; have GU : IsT w1 g 71 := ⟨_, _, (T.out.below B0.out).blk⟩; have R2 := Asd.mk ((R.out.below B0.out).grownR G2.out (fun j hj => by injection hj with hj; subst hj; exact ⟨GU, T.out.ge⟩) (by decide) (by decide)); clear hg2 hT2 k2 GU)
    | (go_at_call 51; refine (DR.out _ R2.out).mono ?_; rintro e w3 ⟨rfl, hg3, A3, c3, hR3, _⟩; have G3 := Asd.mk hg3; have R3 := Asd.mk hR3; have GU : IsT w2 gr 64 := ⟨_, _, R2.out.blk⟩; have T3 := Asd.mk (T2.out.grownR hg3 (fun j hj => by injection hj with hj; subst hj; exact ⟨GU, R.out.ge⟩) (by decide) (by decide)); clear hg3 hR3 GU))
  all_goals
    go_wp2_with fail
    go_ret
    rw [STP.out]
    exact ⟨rfl, (((Kept2.refl g gr w).below B0.out).grown G2.out (.inl rfl)).grown G3.out (.inr rfl), ⟨_, _, T3.out⟩, ⟨_, _, R3.out⟩⟩
set_option maxHeartbeats 16000000 in
set_option maxRecDepth 100000 in
theorem Step2 {base g gr c cr : Nat} {w : World} {l : List Rw} {A Ar : Option Addr} (hT : Tab base w g l A c) (hR : RTab base w gr l Ar cr) (a : ActR) (ha : ActIn base w a) (hp3 : a.p.n ≤ 300) (hkind : amongP a.kind 4 = 2) :
    Calls Try.prog 27 #[.pointer (some ⟨g, 0, none⟩), .pointer (some ⟨gr, 0, none⟩), .agg a.cs.toArray] w (StepPost base w g gr (stepP l a)) := by
  have AM : Asd (∀ W, Calls Try.prog 23 #[.int .i64 a.kind, .int .i64 4] W fun e w' => e = .returned (.int .i64 2) ∧ w' = W) := ⟨fun W => by
    have h := among_calls a.kind 4 (by omega) (by omega) W
    rwa [hkind] at h⟩
  obtain ⟨kind, ⟨qA, qn, qc⟩, ops, ⟨f, t⟩, ⟨pA, pn, pc⟩, rows⟩ := a
  obtain ⟨ha1, ha2, ha3, ha4⟩ := ha
  simp only at ha1 ha2 ha3 ha4 hkind AM hp3
  have OPS := Asd.mk ha1
  have FIT := Asd.mk ha2
  have RWS := Asd.mk ha4
  have T := Asd.mk hT
  have R := Asd.mk hR
  have hge : base ≤ w.heap.size := by have h1 := hT.ge; have h2 := hT.lt; omega
  have hgl := hT.lt
  have hrl := hR.lt
  have hggr : g ≠ gr := IsT.ne (⟨_, _, hT.blk⟩ : IsT w g 71) (⟨_, _, hR.blk⟩ : IsT w gr 64) (by decide)
  have STP : Asd (stepP l ⟨kind, ⟨qA, qn, qc⟩, ops, ⟨f, t⟩, ⟨pA, pn, pc⟩, rows⟩ = (takeP l rows).2) := ⟨by unfold stepP; simp only; rw [hkind]; rfl⟩
  have hal : Below w.heap.size w (w.alloc (.cells #[.int .i64 kind, .slice qA qn qc, .string f, .string t, .slice pA pn pc] 66)) := (Below.refl _ _).alloc (Nat.le_refl _) _
  have B0 := Asd.mk hal
  have K0 : Asd ((w.alloc (.cells #[.int .i64 kind, .slice qA qn qc, .string f, .string t, .slice pA pn pc] 66)).heap[w.heap.size]? = some (.cells #[.int .i64 kind, .slice qA qn qc, .string f, .string t, .slice pA pn pc] 66 (0, 0))) := ⟨heap_alloc_new w _⟩
  have hz0 : w.heap.size < (w.alloc (.cells #[.int .i64 kind, .slice qA qn qc, .string f, .string t, .slice pA pn pc] 66)).heap.size := by simp
  clear hal ha1 ha2 ha4 hT hR hkind
  unfold ActR.cs
  go_enter Try.func27, Try.ntmps27
  go_wp2_with fail
  generalize (w.alloc (.cells #[.int .i64 kind, .slice qA qn qc, .string f, .string t, .slice pA pn pc] 66)) = w0 at *
  refine (AM.out _).mono ?_
  rintro e w1 ⟨rfl, rfl⟩
  have x4 : w1.cell? ⟨w.heap.size, 4, none⟩ = some (.slice pA pn pc) := cell_of_row _ _ 4 _ _ _ K0.out
  clear AM
  go_wp2_with (at_builtin; refine wpList_append_mine (base := base) (own := w1.heap.size) (n := 0) (m := pn) (v := .slice (some ⟨w1.heap.size, 0, none⟩) 0 0) (xs := []) (ys := rowCells rows) rfl (.tmp 72) (.tmp 74) 37 rfl elt_row rfl rfl (World.ownsRow_made w1 #[] 0 (Nat.le_refl _) (by simp [maxLen]) (by simp)) ((RWS.out.below B0.out).alloc _) (row_one _) (by unfold maxLen; omega) (by omega) (by simp) ?_; intro v2 w2 O2' G2'; rw [Nat.zero_add, List.nil_append] at O2'; obtain ⟨A2, c2, rfl, r2⟩ := Rd.of_own (base := base) O2'; have O2 := Asd.mk O2'; have RD2 := Asd.mk r2; have B12 := Asd.mk ((((Below.refl w1.heap.size w1).alloc (Nat.le_refl _) (.cells #[] 53))).grown G2' (by simp) (fun i hi => by simp [Value.ownBlock] at hi; subst hi; exact Nat.le_refl _)); clear O2' G2' r2)
  have B2 := Asd.mk (B0.out.trans (B12.out.mono B0.out.size))
  have K2 := Asd.mk ((B12.out.block _ hz0).trans K0.out)
  have hz2 : w.heap.size < w2.heap.size := Nat.lt_of_lt_of_le hz0 B12.out.size
  have z4 : w2.cell? ⟨w.heap.size, 4, none⟩ = some (.slice pA pn pc) := cell_of_row _ _ 4 _ _ _ K2.out
  have OL := Asd.mk (fun (b : Addr) (hb : A2 = some b) => O2.out.lt b.block (by rw [hb]; rfl))
  generalize hd : takeP l rows = d at *
  have DD := Asd.mk hd
  have TC : Asd (∀ W, Below w2.heap.size w2 W → Calls Try.prog 24 #[.pointer (some ⟨g, 0, none⟩), .slice A2 pn c2] W (TakePost base W A g d)) := ⟨fun W hW => by
    have h := Take_calls (T.out.below (B2.out.trans (hW.mono B2.out.size))) (RD2.out.below hW) (by omega)
    rwa [DD.out] at h⟩
  have TR : Asd (∀ W, RTab base W gr l Ar cr → Rd base 53 W 3 pA pn pc (rowCells rows) → Calls Try.prog 50 #[.pointer (some ⟨gr, 0, none⟩), .slice pA pn pc] W (RTakePost base W Ar gr d)) := ⟨fun W h1 h2 => by
    have h := RTake_calls h1 h2 (by omega)
    rwa [DD.out] at h⟩
  have SC : Asd (∀ W, Rd base 53 W 3 A2 pn c2 (rowCells rows) → Rd base 53 W 3 pA pn pc (rowCells rows) → Calls Try.prog 21 #[.slice A2 pn c2, .slice pA pn pc] W fun e w' => e = .returned (.bool true) ∧ Below W.heap.size W w') := ⟨fun W h1 h2 => by
    have h := SameRows_calls h1 h2 (by omega)
    rwa [decide_eq_true rfl] at h⟩
  clear hd x4
  obtain ⟨code, l'⟩ := d
  go_wp2_with fail
  go_region_with (first
    | (go_at_call 24; refine (TC.out _ ((Below.refl w2.heap.size w2).drew)).mono ?_; rintro e w3 ⟨rfl, hg3, A3, c3, hT3, hfr3⟩; have G3 := Asd.mk (gb_trans (gb_below ((Below.refl w2.heap.size w2).drew) (some g)) hg3); have T3 := Asd.mk hT3; have FR3 := Asd.mk (Fr.mono (w := w2) hfr3 (Nat.le_refl _)); have k3 := (G3.out.block _ hz2 (by simp; omega)).trans K2.out; have K3 := Asd.mk k3; have u4 : w3.cell? ⟨w.heap.size, 4, none⟩ = some (.slice pA pn pc) := cell_of_row _ _ 4 _ _ _ k3; have hz3 : w.heap.size < w3.heap.size := Nat.lt_of_lt_of_le hz2 G3.out.size; have GU : IsT w2 g 71 := ⟨_, _, (T.out.below B2.out).blk⟩; have hrow : ∀ j, some g = some j → IsT w2 j 71 ∧ base ≤ j := (fun j hj => by injection hj with hj; subst hj; exact ⟨GU, T.out.ge⟩); have R3 := Asd.mk ((R.out.below B2.out).grownR G3.out hrow (by decide) (by decide)); have W3 := Asd.mk ((RWS.out.below B2.out).grownR G3.out hrow (by decide)); have D3 := Asd.mk (RD2.out.grownR G3.out hrow (by decide)); have O3 := Asd.mk (own_grownR O2.out G3.out (fun j hj => (hrow j hj).1) (by decide)); clear hg3 hT3 hfr3 k3 GU hrow)
    | (go_at_call 50; refine (TR.out _ R3.out W3.out).mono ?_; rintro e w4 ⟨rfl, hg4, A4, c4, hR4, hfr4⟩; have G4 := Asd.mk hg4; have R4 := Asd.mk hR4; have FR4 := Asd.mk (Fr.mono (w := w2) hfr4 G3.out.size); have k4 := (G4.out.block _ hz3 (by simp; omega)).trans K3.out; have v4 : w4.cell? ⟨w.heap.size, 4, none⟩ = some (.slice pA pn pc) := cell_of_row _ _ 4 _ _ _ k4; have GU : IsT w3 gr 64 := ⟨_, _, R3.out.blk⟩; have hrow : ∀ j, some gr = some j → IsT w3 j 64 ∧ base ≤ j := (fun j hj => by injection hj with hj; subst hj; exact ⟨GU, R.out.ge⟩); have T4 := Asd.mk (T3.out.grownR G4.out hrow (by decide) (by decide)); have W4 := Asd.mk (W3.out.grownR G4.out hrow (by decide)); have D4 := Asd.mk (D3.out.grownR G4.out hrow (by decide)); have O4 := Asd.mk (own_grownR O3.out G4.out (fun j hj => (hrow j hj).1) (by decide)); clear hg4 hR4 hfr4 k4 GU hrow)
    | (go_at_call 21; refine (SC.out _ D4.out W4.out).mono ?_; rintro e w5 ⟨rfl, hb5⟩; have B5 := Asd.mk hb5; clear hb5))
  all_goals
    have O5 := Asd.mk (O4.out.kept (gb_below B5.out none) (by cases (Value.slice A2 pn c2).ownBlock <;> simp))
    have SPL := Asd.mk (SpoilR_calls (Shp.own O5.out rfl))
    go_wp2_with fail
    refine SPL.out.mono ?_
    rintro e w6 ⟨rfl, hs⟩
    have hoT := own_isT O5.out
    have hA : ∀ (a b : Addr), A3 = some a → A2 = some b → a.block ≠ b.block := fun a b ha hb => by
      obtain ⟨h1, h2⟩ := OL.out b hb
      have h3 := B0.out.size
      rcases FR3.out with h | h
      · rw [h] at ha
        have := T.out.old a ha
        omega
      · have := h a ha
        omega
    have hR : ∀ (a b : Addr), A4 = some a → A2 = some b → a.block ≠ b.block := fun a b ha hb => by
      obtain ⟨h1, h2⟩ := OL.out b hb
      have h3 := B0.out.size
      rcases FR4.out with h | h
      · rw [h] at ha
        have := R.out.old a ha
        omega
      · have := h a ha
        omega
    have T6 := Asd.mk ((T4.out.below B5.out).spr hs (fun b hb => (hoT b hb).1) hA)
    have R6 := Asd.mk ((R4.out.below B5.out).spr hs (fun b hb => (hoT b hb).1) hR)
    have KE6 := Asd.mk ((((((Kept2.refl g gr w).below B2.out).grown G3.out (.inl rfl)).grown G4.out (.inr rfl)).below B5.out).spr hs (fun b hb => Nat.le_trans B0.out.size (hoT b hb).2))
    clear hs hoT SPL hA hR
    go_wp2_with fail
    go_ret
    rw [STP.out]
    exact ⟨rfl, KE6.out, ⟨_, _, T6.out⟩, ⟨_, _, R6.out⟩⟩
end Go.Proofs.Ytehfaeafefkngaa

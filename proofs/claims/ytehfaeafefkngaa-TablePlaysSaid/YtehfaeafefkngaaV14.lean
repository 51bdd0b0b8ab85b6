/- A call of both tables: Do. -/
import Derived.Test.YtehfaeafefkngaaV13
set_option linter.unusedVariables false
set_option linter.unusedSimpArgs false
namespace Go.Proofs.Ytehfaeafefkngaa
open Go.RowKit

set_option maxHeartbeats 16000000 in
set_option maxRecDepth 100000 in
theorem Step0 {base g gr c cr : Nat} {w : World} {l : List Rw} {A Ar : Option Addr} (hT : Tab base w g l A c) (hR : RTab base w gr l Ar cr) (a : ActR) (ha : ActIn base w a) (hkind : amongP a.kind 4 = 0) :
    Calls Try.prog 27 #[.pointer (some ⟨g, 0, none⟩), .pointer (some ⟨gr, 0, none⟩), .agg a.cs.toArray] w (StepPost base w g gr (stepP l a)) := by
  have AM : Asd (∀ W, Calls Try.prog 23 #[.int .i64 a.kind, .int .i64 4] W fun e w' => e = .returned (.int .i64 0) ∧ w' = W) := ⟨fun W => by
    have h := among_calls a.kind 4 (by omega) (by omega) W
    rwa [hkind] at h⟩
  obtain ⟨kind, ⟨qA, qn, qc⟩, ops, ⟨f, t⟩, ⟨pA, pn, pc⟩, rows⟩ := a
  obtain ⟨ha1, ha2, ha3, ha4⟩ := ha
  simp only at ha1 ha2 ha3 ha4 hkind AM
  have OPS := Asd.mk ha1
  have FIT := Asd.mk ha2
  have RWS := Asd.mk ha4
  have T := Asd.mk hT
  have R := Asd.mk hR
  have hge : base ≤ w.heap.size := by have h1 := hT.ge; have h2 := hT.lt; omega
  have hgl := hT.lt
  have hrl := hR.lt
  have hggr : g ≠ gr := IsT.ne (⟨_, _, hT.blk⟩ : IsT w g 71) (⟨_, _, hR.blk⟩ : IsT w gr 64) (by decide)
  have STP : Asd (stepP l ⟨kind, ⟨qA, qn, qc⟩, ops, ⟨f, t⟩, ⟨pA, pn, pc⟩, rows⟩ = (doP l ops).rows) := ⟨by unfold stepP; simp only; rw [hkind]; rfl⟩
  have hal : Below w.heap.size w (w.alloc (.cells #[.int .i64 kind, .slice qA qn qc, .string f, .string t, .slice pA pn pc] 66)) := (Below.refl _ _).alloc (Nat.le_refl _) _
  have B0 := Asd.mk hal
  have K0 : Asd ((w.alloc (.cells #[.int .i64 kind, .slice qA qn qc, .string f, .string t, .slice pA pn pc] 66)).heap[w.heap.size]? = some (.cells #[.int .i64 kind, .slice qA qn qc, .string f, .string t, .slice pA pn pc] 66 (0, 0))) := ⟨heap_alloc_new w _⟩
  have hz0 : w.heap.size < (w.alloc (.cells #[.int .i64 kind, .slice qA qn qc, .string f, .string t, .slice pA pn pc] 66)).heap.size := by simp
  clear hal ha1 ha2 ha4 hT hR hkind
  unfold ActR.cs
  go_enter Try.func27, Try.ntmps27
  go_wp2_with fail
  generalize (w.alloc (.cells #[.int .i64 kind, .slice qA qn qc, .string f, .string t, .slice pA pn pc] 66)) = w0 at *
  refine (AM.out _).mono ?_
  rintro e w1 ⟨rfl, rfl⟩
  have x1 : w1.cell? ⟨w.heap.size, 1, none⟩ = some (.slice qA qn qc) := cell_of_row _ _ 1 _ _ _ K0.out
  have LP := Asd.mk (LendOps_calls (OPS.out.below B0.out) ha3 (Nat.le_trans hge B0.out.size))
  clear AM
  go_wp2_with fail
  refine LP.out.mono ?_
  rintro e w2 ⟨P, cp, rfl, hb2, hP⟩
  have B2 := Asd.mk (B0.out.trans (hb2.mono B0.out.size))
  have K2 := Asd.mk ((hb2.block _ hz0).trans K0.out)
  have hz2 : w.heap.size < w2.heap.size := Nat.lt_of_lt_of_le hz0 hb2.size
  have LENT := Asd.mk hP
  obtain ⟨hlo, hPr⟩ := lent_ops hP
  have DO := Asd.mk (Do_calls2 (T.out.below B2.out) ops P qn cp hPr FIT.out)
  clear x1 LP hb2 hP hPr hlo
  go_wp2_with fail
  refine DO.out.mono ?_
  rintro e w3 ⟨A1, n1, c1, rr, rfl, hg3, ⟨A3, c3, hT3, hfr3, hne3⟩, hO3, hM3⟩
  have GU : IsT w2 g 71 := ⟨_, _, (T.out.below B2.out).blk⟩
  have hrow : ∀ j, some g = some j → IsT w2 j 71 ∧ base ≤ j := fun j hj => by injection hj with hj; subst hj; exact ⟨GU, T.out.ge⟩
  have R3 := Asd.mk ((R.out.below B2.out).grownR hg3 hrow (by decide) (by decide))
  have O3' := Asd.mk ((OPS.out.below B2.out).grownR hg3 hrow (by decide))
  have L3 := Asd.mk (LENT.out.grownR hg3 hrow (by decide))
  have KE3 := Asd.mk (((Kept2.refl g gr w).below B2.out).grown hg3 (.inl rfl))
  have K3 := Asd.mk ((hg3.block _ hz2 (by simp; omega)).trans K2.out)
  have hz3 : w.heap.size < w3.heap.size := Nat.lt_of_lt_of_le hz2 hg3.size
  have S23 := Asd.mk hg3.size
  have T3 := Asd.mk hT3
  have FR3 := Asd.mk hfr3
  have NE3 := Asd.mk hne3
  have RS3 := Asd.mk hO3
  have M3 := Asd.mk hM3
  generalize hd : doP l ops = d at *
  have DD := Asd.mk hd
  clear hd
  have hal3 : Below w3.heap.size w3 (w3.alloc (.cells #[.int .i64 d.at_, .int .i64 d.code] 32)) := (Below.refl _ _).alloc (Nat.le_refl _) _
  have F3 : Asd ((w3.alloc (.cells #[.int .i64 d.at_, .int .i64 d.code] 32)).heap[w3.heap.size]? = some (.cells #[.int .i64 d.at_, .int .i64 d.code] 32 (0, 0))) := ⟨heap_alloc_new w3 _⟩
  have hz3' : w3.heap.size < (w3.alloc (.cells #[.int .i64 d.at_, .int .i64 d.code] 32)).heap.size := by simp
  have B3 := Asd.mk hal3
  have x1 : w3.cell? ⟨w.heap.size, 1, none⟩ = some (.slice qA qn qc) := cell_of_row _ _ 1 _ _ _ K3.out
  have RDO := Asd.mk (RDo_calls (R3.out.below hal3) ops qA qn qc (O3'.out.below hal3) FIT.out)
  rw [DD.out] at RDO
  clear hal3 hg3 hT3 hfr3 hne3 hO3 hM3 hrow DO GU
  go_wp2_with fail
  generalize (w3.alloc (.cells #[.int .i64 d.at_, .int .i64 d.code] 32)) = w4 at *
  refine RDO.out.mono ?_
  rintro e w5 ⟨A5, n5, c5, ss, rfl, hg5, ⟨Ar5, cr5, hR5, hfr5⟩, hO5, hM5⟩
  have GUr : IsT w4 gr 64 := ⟨_, _, (R3.out.below B3.out).blk⟩
  have hrow : ∀ j, some gr = some j → IsT w4 j 64 ∧ base ≤ j := fun j hj => by injection hj with hj; subst hj; exact ⟨GUr, R3.out.ge⟩
  have T5 := Asd.mk ((T3.out.below B3.out).grownR hg5 hrow (by decide) (by decide))
  have M5 := Asd.mk ((M3.out.below B3.out).grownR hg5 hrow (by decide))
  have RS5 := Asd.mk (own_grownR (RS3.out.kept (gb_below B3.out none) (by cases (Value.slice A1 n1 c1).ownBlock <;> simp)) hg5 (fun j hj => (hrow j hj).1) (by decide))
  have OP5 := Asd.mk ((O3'.out.below B3.out).grownR hg5 hrow (by decide))
  have L5 := Asd.mk ((L3.out.below B3.out).grownR hg5 hrow (by decide))
  have KE5 := Asd.mk ((KE3.out.below B3.out).grown hg5 (.inr rfl))
  have K5 := Asd.mk ((hg5.block _ (Nat.lt_of_lt_of_le hz3 B3.out.size) (by simp; omega)).trans ((B3.out.block _ hz3).trans K3.out))
  have F5 := Asd.mk ((hg5.block _ hz3' (by simp; omega)).trans F3.out)
  have R5 := Asd.mk hR5
  have FR5 := Asd.mk hfr5
  have SS5 := Asd.mk hO5
  have N5 := Asd.mk hM5
  have hz5 : w.heap.size < w5.heap.size := Nat.lt_of_lt_of_le (Nat.lt_of_lt_of_le hz3 B3.out.size) hg5.size
  have hz35 : w3.heap.size < w5.heap.size := Nat.lt_of_lt_of_le hz3' hg5.size
  have S45 := Asd.mk hg5.size
  have hal5 : Below w5.heap.size w5 (w5.alloc (.cells #[.int .i64 d.at_, .int .i64 d.code] 32)) := (Below.refl _ _).alloc (Nat.le_refl _) _
  have B5 := Asd.mk hal5
  have G5 : Asd ((w5.alloc (.cells #[.int .i64 d.at_, .int .i64 d.code] 32)).heap[w5.heap.size]? = some (.cells #[.int .i64 d.at_, .int .i64 d.code] 32 (0, 0))) := ⟨heap_alloc_new w5 _⟩
  have hz5' : w5.heap.size < (w5.alloc (.cells #[.int .i64 d.at_, .int .i64 d.code] 32)).heap.size := by simp
  have hn1 : n1 ≤ 140737488355328 := by
    obtain ⟨_, _, e1, h1⟩ := Rd.of_own (base := base) RS5.out
    injection e1 with e1 _ e2
    subst e1 e2
    have h2 := h1.count (enc := RRes.enc) (fun _ => rfl) (by omega)
    have h3 := All2.len M5.out
    have h4 : d.res.length ≤ 32 := by
      rw [← DD.out]
      unfold doP
      split
      · simp
      · split
        · simp
        · split
          · simp
          · rename_i h _ _
            rw [reP_len]; omega
    omega
  obtain ⟨_, _, e1, hx1⟩ := Rd.of_own (base := base) RS5.out
  injection e1 with e1 _ e2
  subst e1 e2
  obtain ⟨_, _, e1, hx2⟩ := Rd.of_own (base := base) SS5.out
  injection e1 with e1 _ e2
  subst e1 e2
  have hrw : ∀ r ∈ d.res, r.rows.length ≤ 140737488355328 := by
    have h := doP_res_rows (l := l) T.out.big T.out.srt ops
    rw [DD.out] at h
    exact h
  have SR := Asd.mk (SameResults_yes (hx1.below hal5) (hx2.below hal5) (M5.out.below hal5) (N5.out.below hal5) hn1 hrw)
  have R5t := Asd.mk (RS5.out.kept (gb_below hal5 none) (by cases (Value.slice A1 n1 c1).ownBlock <;> simp))
  clear hal5 hg5 hR5 hfr5 hO5 hM5 hrow RDO GUr x1 hx1 hx2 hn1 hrw
  go_wp2_with fail
  generalize (w5.alloc (.cells #[.int .i64 d.at_, .int .i64 d.code] 32)) = w6 at *
  refine SR.out.mono ?_
  rintro e w7 ⟨rfl, q7, hq7⟩
  have hb67 : Below w6.heap.size w6 w7 := hq7 ▸ below_dn _ _
  have B57 := Asd.mk (B5.out.trans (hb67.mono B5.out.size))
  have k5 := (B57.out.block _ hz35).trans F5.out
  have k6 := (hb67.block _ hz5').trans G5.out
  have k7 := (B57.out.block _ hz5).trans K5.out
  have a0 : w7.cell? ⟨w3.heap.size, 0, none⟩ = some (.int .i64 d.at_) := cell_of_row _ _ 0 _ _ _ k5
  have a1 : w7.cell? ⟨w3.heap.size, 1, none⟩ = some (.int .i64 d.code) := cell_of_row _ _ 1 _ _ _ k5
  have b0 : w7.cell? ⟨w5.heap.size, 0, none⟩ = some (.int .i64 d.at_) := cell_of_row _ _ 0 _ _ _ k6
  have b1 : w7.cell? ⟨w5.heap.size, 1, none⟩ = some (.int .i64 d.code) := cell_of_row _ _ 1 _ _ _ k6
  have x1 : w7.cell? ⟨w.heap.size, 1, none⟩ = some (.slice qA qn qc) := cell_of_row _ _ 1 _ _ _ k7
  have KO := Asd.mk (KeptOps_calls (L5.out.below B57.out) (OP5.out.below B57.out) ha3)
  clear k5 k6 k7 SR hq7
  go_wp2_with fail
  refine KO.out.mono ?_
  rintro e w8 ⟨rfl, q8, hq8⟩
  have B78 := Asd.mk (hq8 ▸ below_dn w7 q8 : Below w7.heap.size w7 w8)
  have B58 := Asd.mk (B57.out.trans (B78.out.mono B57.out.size))
  have R8 := Asd.mk (RS5.out.kept (gb_below B58.out none) (by cases (Value.slice A1 n1 c1).ownBlock <;> simp))
  have M8 := Asd.mk (M5.out.below B58.out)
  have SPL := Asd.mk (SpoilS_calls R8.out M8.out)
  clear KO hq8 a0 a1 b0 b1 x1 hb67
  go_wp2_with fail
  refine SPL.out.mono ?_
  rintro e w9 ⟨rfl, hs9⟩
  have hlt := RMs.lt M8.out
  have hlt3 := RMs.lt M3.out
  have hoT := own_isT R8.out
  have hNr : NeR Ar5 rr := NeR.of (w2 := w4) (lo := w2.heap.size) (fun a ha => Nat.lt_of_lt_of_le (R.out.old a ha) B2.out.size) (fun q hq b hb => ⟨(hlt3 q hq b hb).1, Nat.lt_of_lt_of_le (hlt3 q hq b hb).2 B3.out.size⟩) FR5.out
  have hB : ∀ b, A1 = some b → IsT w8 b.block 39 ∧ base ≤ b.block := fun b hb => ⟨(hoT b hb).1, Nat.le_trans (Nat.le_trans hge B2.out.size) (hoT b hb).2⟩
  have T9 := Asd.mk ((T5.out.below B58.out).sps hs9 hB (RMs.isT M8.out) NE3.out)
  have R9 := Asd.mk ((R5.out.below B58.out).sps hs9 hB (RMs.isT M8.out) hNr)
  have KE9 := Asd.mk ((KE5.out.below B58.out).sps hs9 (fun b hb => Nat.le_trans B2.out.size (hoT b hb).2) (fun q hq b hb => Nat.le_trans B2.out.size (hlt q hq b hb).1))
  clear hs9 hlt hlt3 hoT hNr hB SPL
  go_wp2_with fail
  go_ret
  rw [STP.out]
  exact ⟨rfl, KE9.out, ⟨_, _, T9.out⟩, ⟨_, _, R9.out⟩⟩
end Go.Proofs.Ytehfaeafefkngaa

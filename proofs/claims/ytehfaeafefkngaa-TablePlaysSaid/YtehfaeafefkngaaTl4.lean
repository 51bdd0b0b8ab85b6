/- TableForks, the walk. -/
import Derived.Test.YtehfaeafefkngaaTl3
set_option linter.unusedVariables false
set_option linter.unusedSimpArgs false
namespace Go.Proofs.Ytehfaeafefkngaa
open Go.RowKit

def allS : SpanR := ⟨⟨#[]⟩, ⟨#[]⟩⟩

set_option maxHeartbeats 4000000 in
set_option maxRecDepth 100000 in
theorem Forks_walk {w : World} {Al : Option Addr} {nl cl : Nat} {ll : List RSl} {opss : List (List OpR)} (hl : Rd w.heap.size 22 w 1 Al nl cl (ll.flatMap RSl.enc)) (ha : All2 (OpsIn w.heap.size w) ll opss)
    {A1 A2 : Option Addr} {n1 c1 n2 c2 : Nat} {oa ob : List OpR} (hoa : OpsIn w.heap.size w ⟨A1, n1, c1⟩ oa) (hob : OpsIn w.heap.size w ⟨A2, n2, c2⟩ ob) :
    Calls Try.prog 6 #[.slice Al nl cl, .slice A1 n1 c1, .slice A2 n2 c2] w fun e w' => e = .returned (.bool true) ∧ Below w.heap.size w w' := by
  have L := Asd.mk hl
  have AA := Asd.mk ha
  have OA := Asd.mk hoa
  have OB := Asd.mk hob
  clear hl ha hoa hob
  have hplay := fun (W : World) (hB : Below w.heap.size w W) => played_calls (L.out.below hB) (AA.out.mono (fun a b h => h.below hB)) hB.size
  have PL := Asd.mk hplay
  clear hplay
  go_enter Try.func6, Try.ntmps6
  go_wp2_with fail
  refine (works_calls _).mono ?_
  rintro e wa ⟨rfl, hba⟩
  have Ba := Asd.mk hba
  clear hba
  go_wp2_with fail
  refine (PL.out _ Ba.out).mono ?_
  rintro e wb ⟨gt, rfl, hTt, hgt, hbb⟩
  have hbase1 : w.heap.size ≤ gt := Nat.le_trans Ba.out.size hgt
  have Bb := Asd.mk (Ba.out.trans (hbb.mono Ba.out.size))
  obtain ⟨At, ct, hTt⟩ := hTt
  have Tt := Asd.mk hTt
  have lt1 : gt < wb.heap.size := hTt.lt
  clear hbb hTt
  go_wp2_with fail
  refine (PL.out _ Bb.out).mono ?_
  rintro e wc ⟨gx, rfl, hTx, hgx, hbc⟩
  have Bc := Asd.mk (Bb.out.trans (hbc.mono Bb.out.size))
  obtain ⟨Ax, cx, hTx⟩ := hTx
  have Tx := Asd.mk hTx
  have Tt := Asd.mk (Tt.out.below hbc)
  have lt2 : gx < wc.heap.size := hTx.lt
  clear hbc hTx
  go_wp2_with fail
  refine (PL.out _ Bc.out).mono ?_
  rintro e wd ⟨gy, rfl, hTy, hgy, hbd⟩
  have Bd := Asd.mk (Bc.out.trans (hbd.mono Bc.out.size))
  obtain ⟨Ay, cy, hTy⟩ := hTy
  have Ty := Asd.mk hTy
  have Tt := Asd.mk (Tt.out.below hbd)
  have Tx := Asd.mk (Tx.out.below hbd)
  have lt3 : gy < wd.heap.size := hTy.lt
  clear hbd hTy
  go_wp2_with fail
  refine (Fork_calls Tt.out Bd.out.size).mono ?_
  rintro e we ⟨gu, rfl, hTu, hgu, hbe⟩
  have Be := Asd.mk (Bd.out.trans (hbe.mono Bd.out.size))
  obtain ⟨Au, cu, hTu⟩ := hTu
  have Tu := Asd.mk hTu
  have Tt := Asd.mk (Tt.out.below hbe)
  have Tx := Asd.mk (Tx.out.below hbe)
  have Ty := Asd.mk (Ty.out.below hbe)
  clear hbe hTu
  have OAe := Asd.mk (OA.out.below Be.out)
  have OBe := Asd.mk (OB.out.below Be.out)
  go_wp2_with fail
  refine (Do_calls Tt.out oa A1 n1 c1 OAe.out.rd OAe.out.fits).mono ?_
  rintro e wf ⟨Ar1, nr1, cr1, rr1, rfl, hg1, hT1, _, _⟩
  have gT1 : IsT we gt 71 := ⟨_, _, Tt.out.blk⟩
  have Bf := Asd.mk (Be.out.grown hg1 Be.out.size (fun j hj => by injection hj with hj; omega))
  have Tx := Asd.mk (Tx.out.grown hg1 Tt.out.blk Tt.out.ge (by omega))
  have Ty := Asd.mk (Ty.out.grown hg1 Tt.out.blk Tt.out.ge (by omega))
  have Tu := Asd.mk (Tu.out.grown hg1 Tt.out.blk Tt.out.ge (by omega))
  have OAe := Asd.mk (OAe.out.grown hg1 gT1 Tt.out.ge)
  have OBe := Asd.mk (OBe.out.grown hg1 gT1 Tt.out.ge)
  obtain ⟨At', ct', hT1⟩ := hT1
  have Tt := Asd.mk hT1
  clear hg1 hT1 gT1
  go_wp2_with fail
  refine (Do_calls Tu.out ob A2 n2 c2 OBe.out.rd OBe.out.fits).mono ?_
  rintro e wg ⟨Ar2, nr2, cr2, rr2, rfl, hg2, hT2, _, _⟩
  have gT2 : IsT wf gu 71 := ⟨_, _, Tu.out.blk⟩
  have Bg := Asd.mk (Bf.out.grown hg2 Bf.out.size (fun j hj => by injection hj with hj; omega))
  have Tx := Asd.mk (Tx.out.grown hg2 Tu.out.blk Tu.out.ge (by omega))
  have Ty := Asd.mk (Ty.out.grown hg2 Tu.out.blk Tu.out.ge (by omega))
  have Tt := Asd.mk (Tt.out.grown hg2 Tu.out.blk Tu.out.ge (by omega))
  have OAe := Asd.mk (OAe.out.grown hg2 gT2 Tu.out.ge)
  have OBe := Asd.mk (OBe.out.grown hg2 gT2 Tu.out.ge)
  obtain ⟨Au', cu', hT2⟩ := hT2
  have Tu := Asd.mk hT2
  clear hg2 hT2 gT2
  go_wp2_with fail
  refine (Do_calls Tx.out oa A1 n1 c1 OAe.out.rd OAe.out.fits).mono ?_
  rintro e wh ⟨Ar3, nr3, cr3, rr3, rfl, hg3, hT3, _, _⟩
  have gT3 : IsT wg gx 71 := ⟨_, _, Tx.out.blk⟩
  have Bh := Asd.mk (Bg.out.grown hg3 Bg.out.size (fun j hj => by injection hj with hj; omega))
  have Tu := Asd.mk (Tu.out.grown hg3 Tx.out.blk Tx.out.ge (by omega))
  have Ty := Asd.mk (Ty.out.grown hg3 Tx.out.blk Tx.out.ge (by omega))
  have Tt := Asd.mk (Tt.out.grown hg3 Tx.out.blk Tx.out.ge (by omega))
  have OBe := Asd.mk (OBe.out.grown hg3 gT3 Tx.out.ge)
  obtain ⟨Ax', cx', hT3⟩ := hT3
  have Tx := Asd.mk hT3
  clear hg3 hT3 gT3
  go_wp2_with fail
  refine (Do_calls Ty.out ob A2 n2 c2 OBe.out.rd OBe.out.fits).mono ?_
  rintro e wi ⟨Ar4, nr4, cr4, rr4, rfl, hg4, hT4, _, _⟩
  have Bi := Asd.mk (Bh.out.grown hg4 Bh.out.size (fun j hj => by injection hj with hj; omega))
  have Tu := Asd.mk (Tu.out.grown hg4 Ty.out.blk Ty.out.ge (by omega))
  have Tx := Asd.mk (Tx.out.grown hg4 Ty.out.blk Ty.out.ge (by omega))
  have Tt := Asd.mk (Tt.out.grown hg4 Ty.out.blk Ty.out.ge (by omega))
  obtain ⟨Ay', cy', hT4⟩ := hT4
  have Ty := Asd.mk hT4
  clear hg4 hT4
  generalize (doP (playP [] (opss.take 40)) oa).rows = la at *
  generalize (doP (playP [] (opss.take 40)) ob).rows = lb at *
  go_wp2_with fail
  refine (Rows_calls Tt.out allS).mono ?_
  rintro e wj ⟨R1, d1, rfl, hr1, _, hb1⟩
  have Bj := Asd.mk (Bi.out.trans (hb1.mono Bi.out.size))
  have Tx := Asd.mk (Tx.out.below hb1)
  have Tu := Asd.mk (Tu.out.below hb1)
  have Ty := Asd.mk (Ty.out.below hb1)
  have Q1 := Asd.mk hr1
  clear hb1 hr1
  go_wp2_with fail
  refine (Rows_calls Tx.out allS).mono ?_
  rintro e wk ⟨R2, d2, rfl, hr2, _, hb2⟩
  have Bk := Asd.mk (Bj.out.trans (hb2.mono Bj.out.size))
  have Tu := Asd.mk (Tu.out.below hb2)
  have Ty := Asd.mk (Ty.out.below hb2)
  have Q1 := Asd.mk (Q1.out.below hb2)
  have Q2 := Asd.mk hr2
  have hlen : (rowsP la allS).length ≤ 140737488355328 := by
    have := Tx.out.big
    have h2 := endsP_le la allS
    rw [rowsP_len]; omega
  have HL := Asd.mk hlen
  clear hb2 hr2 hlen
  go_wp2_with fail
  refine (SameRows_calls Q1.out Q2.out HL.out).mono ?_
  rintro e wl ⟨rfl, hb3⟩
  have Bl := Asd.mk (Bk.out.trans (hb3.mono Bk.out.size))
  have Tu := Asd.mk (Tu.out.below hb3)
  have Ty := Asd.mk (Ty.out.below hb3)
  clear hb3
  rw [decide_eq_true rfl]
  go_wp2_with fail
  refine (Rows_calls Tu.out allS).mono ?_
  rintro e wm ⟨R3, d3, rfl, hr3, _, hb4⟩
  have Bm := Asd.mk (Bl.out.trans (hb4.mono Bl.out.size))
  have Ty := Asd.mk (Ty.out.below hb4)
  have Q3 := Asd.mk hr3
  clear hb4 hr3
  go_wp2_with fail
  refine (Rows_calls Ty.out allS).mono ?_
  rintro e wn ⟨R4, d4, rfl, hr4, _, hb5⟩
  have Bn := Asd.mk (Bm.out.trans (hb5.mono Bm.out.size))
  have Q3 := Asd.mk (Q3.out.below hb5)
  have Q4 := Asd.mk hr4
  have hlen : (rowsP lb allS).length ≤ 140737488355328 := by
    have := Ty.out.big
    have h2 := endsP_le lb allS
    rw [rowsP_len]; omega
  have HL2 := Asd.mk hlen
  clear hb5 hr4 hlen
  go_wp2_with fail
  refine (SameRows_calls Q3.out Q4.out HL2.out).mono ?_
  rintro e wo ⟨rfl, hb6⟩
  have Bo := Asd.mk (Bn.out.trans (hb6.mono Bn.out.size))
  clear hb6
  rw [decide_eq_true rfl]
  go_wp2_with fail
  go_ret
  exact ⟨rfl, Bo.out⟩
end Go.Proofs.Ytehfaeafefkngaa

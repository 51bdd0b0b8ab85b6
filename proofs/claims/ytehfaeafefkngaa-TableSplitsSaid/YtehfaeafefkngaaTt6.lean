/- TableSplits, the walk. -/
import Derived.Test.YtehfaeafefkngaaTt5
import Derived.Test.YtehfaeafefkngaaTl8
set_option linter.unusedVariables false
set_option linter.unusedSimpArgs false
namespace Go.Proofs.Ytehfaeafefkngaa
open Go.RowKit

def SBox (base : Nat) (w : World) (b : Nat) (s : SpanR) : Prop := Rd base 46 w 2 (some ⟨b, 0, none⟩) 1 1 s.enc
theorem SBox.cell {base b : Nat} {w : World} {s : SpanR} (h : SBox base w b s) : w.cell? ⟨b, 0, none⟩ = some (.string s.from_) ∧ w.cell? ⟨b, 1, none⟩ = some (.string s.to_) := by
  obtain ⟨b', off, hA, _, hc⟩ := Rd.elem h (i := 0) (by omega)
  injection hA with hA
  injection hA with h1 h2 _
  subst h1 h2
  exact ⟨hc 0 (by omega), hc 1 (by omega)⟩
theorem SBox.lt {base b : Nat} {w : World} {s : SpanR} (h : SBox base w b s) : b < w.heap.size := by
  obtain ⟨b', off, hA, hl, hc⟩ := Rd.elem h (i := 0) (by omega)
  cases hA
  exact hl

set_option maxHeartbeats 8000000 in
set_option maxRecDepth 100000 in
theorem Splits_walk {w : World} {Al : Option Addr} {nl cl : Nat} {ll : List RSl} {opss : List (List OpR)} (hl : Rd w.heap.size 22 w 1 Al nl cl (ll.flatMap RSl.enc)) (ha : All2 (OpsIn w.heap.size w) ll opss) (s : SpanR) :
    Calls Try.prog 10 #[.slice Al nl cl, .agg s.enc.toArray] w fun e w' => e = .returned (.bool true) ∧ Below w.heap.size w w' := by
  have L := Asd.mk hl
  have AA := Asd.mk ha
  clear hl ha
  have hplay := fun (W : World) (hB : Below w.heap.size w W) => played_calls (L.out.below hB) (AA.out.mono (fun a b h => h.below hB)) hB.size
  have PL := Asd.mk hplay
  have LE := Asd.mk (played_len opss)
  have SO := Asd.mk (played_sorted opss)
  have RK := Asd.mk (played_rowsOk opss)
  clear hplay
  unfold SpanR.enc
  go_enter Try.func10, Try.ntmps10
  go_wp2_with fail
  have hs0 : SBox w.heap.size (w.alloc (.cells #[.string s.from_, .string s.to_] 46)) w.heap.size s := Rd.new_ rfl rfl
  have hal : Below w.heap.size w (w.alloc (.cells #[.string s.from_, .string s.to_] 46)) := (Below.refl _ _).alloc (Nat.le_refl _) _
  have S0 := Asd.mk hs0
  have B0 := Asd.mk hal
  clear hs0 hal
  generalize (w.alloc (.cells #[.string s.from_, .string s.to_] 46)) = w0 at S0 B0 ⊢
  refine (works_calls _).mono ?_
  rintro e wa ⟨rfl, hba⟩
  have Ba := Asd.mk (B0.out.trans (hba.mono B0.out.size))
  have Sa := Asd.mk (Rd.below S0.out hba)
  clear hba
  go_wp2_with fail
  refine (PL.out _ Ba.out).mono ?_
  rintro e wb ⟨gt, rfl, hTt, hgt, hbb⟩
  have Bb := Asd.mk (Ba.out.trans (hbb.mono Ba.out.size))
  have Sb := Asd.mk (Rd.below Sa.out hbb)
  obtain ⟨At, ct, hTt⟩ := hTt
  generalize playP [] (opss.take 40) = st at *
  have Tt := Asd.mk hTt
  have hgl : gt < wb.heap.size := hTt.lt
  have hle : st.length ≤ 1280 := LE.out
  have hle2 := endsP_le st s
  have RL := Asd.mk (rowsP_len st s)
  clear hbb hTt PL hgt
  go_wp2_with fail
  refine (New_calls w.heap.size wb Bb.out.size).mono ?_
  rintro e wc ⟨gu, rfl, hTu, hgu, hbc⟩
  have Bc := Asd.mk (Bb.out.trans (hbc.mono Bb.out.size))
  have Sc := Asd.mk (Rd.below Sb.out hbc)
  have Tt := Asd.mk (Tt.out.below hbc)
  have Tu := Asd.mk hTu
  have hne : gt ≠ gu := by omega
  have hne2 : gu ≠ gt := by omega
  clear hbc hTu
  go_wp2_with fail
  refine (Rows_calls Tt.out allS).mono ?_
  rw [show rowsP st allS = st from rows_all st]
  rintro e wd ⟨R0, d0, rfl, hr0, _, hbd⟩
  have Bd := Asd.mk (Bc.out.trans (hbd.mono Bc.out.size))
  have Sd := Asd.mk (Rd.below Sc.out hbd)
  have Tt := Asd.mk (Tt.out.below hbd)
  have Tu := Asd.mk (Tu.out.below hbd)
  have P0 := Asd.mk hr0
  obtain ⟨k0, k1⟩ := SBox.cell Sd.out
  clear hbd hr0
  go_wp2_with fail
  refine (Rows_calls Tt.out s).mono ?_
  rintro e we ⟨R1, d1, rfl, hr1, _, hbe⟩
  have Be := Asd.mk (Bd.out.trans (hbe.mono Bd.out.size))
  have Se := Asd.mk (Rd.below Sd.out hbe)
  have Tt := Asd.mk (Tt.out.below hbe)
  have Tu := Asd.mk (Tu.out.below hbe)
  have P0 := Asd.mk (Rd.below P0.out hbe)
  have P1 := Asd.mk hr1
  clear hbe hr1 k0 k1
  have hrl : (rowsP st s).length ≤ 1280 := by rw [rowsP_len]; omega
  go_wp2_with fail
  have htk := Take_calls Tu.out P1.out (by omega)
  rw [take_nil (rowsP_rowsOk RK.out s) (rowsP_sorted SO.out s) (by omega)] at htk
  refine htk.mono ?_
  clear htk
  rintro e wf ⟨rfl, hgf, Au, cu, hTu, _⟩
  have gU : ∀ j, some gu = some j → IsT we j 71 ∧ w.heap.size ≤ j := fun j hj => by
    injection hj with hj
    subst hj
    exact ⟨⟨_, _, Tu.out.blk⟩, Tu.out.ge⟩
  have Bf := Asd.mk (Be.out.grown hgf Be.out.size (fun j hj => (gU j hj).2))
  have Sf := Asd.mk (Rd.grown Se.out hgf Tu.out.blk (by decide) Tu.out.ge)
  have Tt := Asd.mk (Tt.out.grown hgf Tu.out.blk Tu.out.ge hne)
  have P0 := Asd.mk (Rd.grown P0.out hgf Tu.out.blk (by decide) Tu.out.ge)
  have P1 := Asd.mk (Rd.grown P1.out hgf Tu.out.blk (by decide) Tu.out.ge)
  have Tu := Asd.mk hTu
  clear hgf hTu gU
  obtain ⟨k0, k1⟩ := SBox.cell Sf.out
  go_wp2_with fail
  refine (Drop_calls Tt.out s).mono ?_
  rw [← rowsP_len]
  rintro e wg ⟨rfl, hgg, At2, ct2, hTt, _⟩
  have gT : ∀ j, some gt = some j → IsT wf j 71 ∧ w.heap.size ≤ j := fun j hj => by
    injection hj with hj
    subst hj
    exact ⟨⟨_, _, Tt.out.blk⟩, Tt.out.ge⟩
  have Bg := Asd.mk (Bf.out.grown hgg Bf.out.size (fun j hj => (gT j hj).2))
  have Sg := Asd.mk (Rd.grown Sf.out hgg Tt.out.blk (by decide) Tt.out.ge)
  have Tu := Asd.mk (Tu.out.grown hgg Tt.out.blk Tt.out.ge hne2)
  have P0 := Asd.mk (Rd.grown P0.out hgg Tt.out.blk (by decide) Tt.out.ge)
  have P1 := Asd.mk (Rd.grown P1.out hgg Tt.out.blk (by decide) Tt.out.ge)
  have Tt := Asd.mk hTt
  clear hgg hTt gT k0 k1
  obtain ⟨k0, k1⟩ := SBox.cell Sg.out
  go_wp2_with fail
  refine (Rows_calls Tt.out s).mono ?_
  rw [rows_left SO.out s]
  rintro e wh ⟨R2, d2, rfl, hr2, _, hbh⟩
  have Bh := Asd.mk (Bg.out.trans (hbh.mono Bg.out.size))
  have Sh := Asd.mk (Rd.below Sg.out hbh)
  have Tt := Asd.mk (Tt.out.below hbh)
  have Tu := Asd.mk (Tu.out.below hbh)
  have P0 := Asd.mk (Rd.below P0.out hbh)
  have P1 := Asd.mk (Rd.below P1.out hbh)
  clear hbh hr2 k0 k1
  obtain ⟨k0, k1⟩ := SBox.cell Sh.out
  go_wp2_with fail
  refine (Rows_calls Tu.out s).mono ?_
  rw [rows_again SO.out s]
  rintro e wi ⟨R3, d3, rfl, hr3, _, hbi⟩
  have Bi := Asd.mk (Bh.out.trans (hbi.mono Bh.out.size))
  have Tt := Asd.mk (Tt.out.below hbi)
  have Tu := Asd.mk (Tu.out.below hbi)
  have P0 := Asd.mk (Rd.below P0.out hbi)
  have P1 := Asd.mk (Rd.below P1.out hbi)
  have P3 := Asd.mk hr3
  clear hbi hr3 k0 k1
  go_wp2_with fail
  refine (SameRows_calls P3.out P1.out (by omega)).mono ?_
  rintro e wj ⟨rfl, hbj⟩
  have Bj := Asd.mk (Bi.out.trans (hbj.mono Bi.out.size))
  have Tt := Asd.mk (Tt.out.below hbj)
  have Tu := Asd.mk (Tu.out.below hbj)
  have P0 := Asd.mk (Rd.below P0.out hbj)
  clear hbj
  rw [decide_eq_true rfl]
  go_wp2_with fail
  refine (Rows_calls Tu.out allS).mono ?_
  rw [show rowsP (rowsP st s) allS = rowsP st s from rows_all _]
  rintro e wk ⟨R4, d4, rfl, hr4, _, hbk⟩
  have Bk := Asd.mk (Bj.out.trans (hbk.mono Bj.out.size))
  have Tt := Asd.mk (Tt.out.below hbk)
  have P0 := Asd.mk (Rd.below P0.out hbk)
  have P4 := Asd.mk hr4
  clear hbk hr4
  go_wp2_with fail
  have htk := Take_calls Tt.out P4.out (by omega)
  rw [take_back SO.out (by omega) RK.out s] at htk
  refine htk.mono ?_
  clear htk
  rintro e wl ⟨rfl, hgl2, At3, ct3, hTt, _⟩
  have gT : ∀ j, some gt = some j → IsT wk j 71 ∧ w.heap.size ≤ j := fun j hj => by
    injection hj with hj
    subst hj
    exact ⟨⟨_, _, Tt.out.blk⟩, Tt.out.ge⟩
  have Bl := Asd.mk (Bk.out.grown hgl2 Bk.out.size (fun j hj => (gT j hj).2))
  have P0 := Asd.mk (Rd.grown P0.out hgl2 Tt.out.blk (by decide) Tt.out.ge)
  have Tt := Asd.mk hTt
  clear hgl2 hTt gT
  go_wp2_with fail
  refine (Rows_calls Tt.out allS).mono ?_
  rw [show rowsP st allS = st from rows_all st]
  rintro e wm ⟨R5, d5, rfl, hr5, _, hbm⟩
  have Bm := Asd.mk (Bl.out.trans (hbm.mono Bl.out.size))
  have P0 := Asd.mk (Rd.below P0.out hbm)
  have P5 := Asd.mk hr5
  clear hbm hr5
  go_wp2_with fail
  refine (SameRows_calls P5.out P0.out (by omega)).mono ?_
  rintro e wn ⟨rfl, hbn⟩
  have Bn := Asd.mk (Bm.out.trans (hbn.mono Bm.out.size))
  clear hbn
  go_wp2_with fail
  go_ret
  exact ⟨by simp, Bn.out⟩
end Go.Proofs.Ytehfaeafefkngaa

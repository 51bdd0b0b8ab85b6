/- SpanThree, the walk. -/
import Derived.Test.YtkjopeiohjkhoaaSv
set_option linter.unusedVariables false
set_option linter.unusedSimpArgs false
namespace Go.Proofs.Ytkjopeiohjkhoaa
open Go.RowKit
set_option maxHeartbeats 16000000 in
set_option maxRecDepth 100000 in
theorem SpanThree_walk {w : World} {Aa : Option Addr} {na ca : Nat} {la : List SpanR} {Ab : Option Addr} {nb cb : Nat} {lb : List SpanR} {Ac : Option Addr} {nc cc : Nat} {lc : List SpanR} (ha : Rd w.heap.size 35 w 2 Aa na ca (sCells la)) (hb : Rd w.heap.size 35 w 2 Ab nb cb (sCells lb)) (hc : Rd w.heap.size 35 w 2 Ac nc cc (sCells lc)) :
    Calls Try.prog 5 #[.slice Aa na ca, .slice Ab nb cb, .slice Ac nc cc] w fun e w' => e = .returned (.bool true) ∧ Below w.heap.size w w' := by
  have Xa := Asd.mk ha
  have Xb := Asd.mk hb
  have Xc := Asd.mk hc
  clear ha hb hc
  go_enter Try.func5, Try.ntmps5
  go_wp2_with fail
  refine (works_calls _).mono ?_
  rintro e w1 ⟨rfl, hb⟩
  have B1 := Asd.mk hb
  replace Xa := Asd.mk (Rd.below Xa.out hb)
  replace Xb := Asd.mk (Rd.below Xb.out hb)
  replace Xc := Asd.mk (Rd.below Xc.out hb)
  clear hb
  go_wp2_with fail
  refine (sound_calls Xa.out).mono ?_
  rintro e w2 ⟨rfl, hb⟩
  have B2 := Asd.mk (B1.out.trans (hb.mono B1.out.size))
  replace Xa := Asd.mk (Rd.below Xa.out hb)
  replace Xb := Asd.mk (Rd.below Xb.out hb)
  replace Xc := Asd.mk (Rd.below Xc.out hb)
  clear B1
  clear hb
  by_cases hs : soundP la = true
  case neg =>
    rw [Bool.not_eq_true] at hs
    rw [hs]
    clear hs
    go_wp2_with fail
    go_ret
    exact ⟨rfl, B2.out⟩
  have Ga := Asd.mk (soundP_good hs)
  rw [hs]
  clear hs
  go_wp2_with fail
  refine (sound_calls Xb.out).mono ?_
  rintro e w3 ⟨rfl, hb⟩
  have B3 := Asd.mk (B2.out.trans (hb.mono B2.out.size))
  replace Xa := Asd.mk (Rd.below Xa.out hb)
  replace Xb := Asd.mk (Rd.below Xb.out hb)
  replace Xc := Asd.mk (Rd.below Xc.out hb)
  clear B2
  clear hb
  by_cases hs : soundP lb = true
  case neg =>
    rw [Bool.not_eq_true] at hs
    rw [hs]
    clear hs
    go_wp2_with fail
    go_ret
    exact ⟨rfl, B3.out⟩
  have Gb := Asd.mk (soundP_good hs)
  rw [hs]
  clear hs
  go_wp2_with fail
  refine (sound_calls Xc.out).mono ?_
  rintro e w4 ⟨rfl, hb⟩
  have B4 := Asd.mk (B3.out.trans (hb.mono B3.out.size))
  replace Xa := Asd.mk (Rd.below Xa.out hb)
  replace Xb := Asd.mk (Rd.below Xb.out hb)
  replace Xc := Asd.mk (Rd.below Xc.out hb)
  clear B3
  clear hb
  by_cases hs : soundP lc = true
  case neg =>
    rw [Bool.not_eq_true] at hs
    rw [hs]
    clear hs
    go_wp2_with fail
    go_ret
    exact ⟨rfl, B4.out⟩
  have Gc := Asd.mk (soundP_good hs)
  rw [hs]
  clear hs
  go_wp2_with fail
  refine (UnionG (base := w.heap.size) Xa.out Xb.out Ga.out Gb.out (by omega) B4.out.size).mono ?_
  rintro e w5 ⟨Ap, np, cp, lp, rfl, hb, hR, hM, hG, hn⟩
  have B5 := Asd.mk (B4.out.trans (hb.mono B4.out.size))
  replace Xa := Asd.mk (Rd.below Xa.out hb)
  replace Xb := Asd.mk (Rd.below Xb.out hb)
  replace Xc := Asd.mk (Rd.below Xc.out hb)
  clear B4
  have Xp := Asd.mk (hR w.heap.size)
  have Mp := Asd.mk hM
  have Gp := Asd.mk hG
  have Np := Asd.mk hn
  clear hb hR hM hG hn
  go_wp2_with fail
  refine (UnionG (base := w.heap.size) Xb.out Xc.out Gb.out Gc.out (by omega) B5.out.size).mono ?_
  rintro e w6 ⟨Aq, nq, cq, lq, rfl, hb, hR, hM, hG, hn⟩
  have B6 := Asd.mk (B5.out.trans (hb.mono B5.out.size))
  replace Xa := Asd.mk (Rd.below Xa.out hb)
  replace Xb := Asd.mk (Rd.below Xb.out hb)
  replace Xc := Asd.mk (Rd.below Xc.out hb)
  replace Xp := Asd.mk (Rd.below Xp.out hb)
  clear B5
  have Xq := Asd.mk (hR w.heap.size)
  have Mq := Asd.mk hM
  have Gq := Asd.mk hG
  have Nq := Asd.mk hn
  clear hb hR hM hG hn
  go_wp2_with fail
  refine (UnionG (base := w.heap.size) Xp.out Xc.out Gp.out Gc.out (by omega) B6.out.size).mono ?_
  rintro e w7 ⟨Ax, nx, cx, lx, rfl, hb, hR, hM, hG, hn⟩
  have B7 := Asd.mk (B6.out.trans (hb.mono B6.out.size))
  replace Xa := Asd.mk (Rd.below Xa.out hb)
  replace Xb := Asd.mk (Rd.below Xb.out hb)
  replace Xc := Asd.mk (Rd.below Xc.out hb)
  replace Xp := Asd.mk (Rd.below Xp.out hb)
  replace Xq := Asd.mk (Rd.below Xq.out hb)
  clear B6
  have Xx := Asd.mk (hR w.heap.size)
  have Mx := Asd.mk hM
  have Gx := Asd.mk hG
  have Nx := Asd.mk hn
  clear hb hR hM hG hn
  go_wp2_with fail
  refine (UnionG (base := w.heap.size) Xa.out Xq.out Ga.out Gq.out (by omega) B7.out.size).mono ?_
  rintro e w8 ⟨Ay, ny, cy, ly, rfl, hb, hR, hM, hG, hn⟩
  have B8 := Asd.mk (B7.out.trans (hb.mono B7.out.size))
  replace Xa := Asd.mk (Rd.below Xa.out hb)
  replace Xb := Asd.mk (Rd.below Xb.out hb)
  replace Xc := Asd.mk (Rd.below Xc.out hb)
  replace Xp := Asd.mk (Rd.below Xp.out hb)
  replace Xq := Asd.mk (Rd.below Xq.out hb)
  replace Xx := Asd.mk (Rd.below Xx.out hb)
  clear B7
  have Xy := Asd.mk (hR w.heap.size)
  have My := Asd.mk hM
  have Gy := Asd.mk hG
  have Ny := Asd.mk hn
  clear hb hR hM hG hn
  go_wp2_with fail
  refine (MeetG (base := w.heap.size) Xa.out Xb.out Ga.out Gb.out (by omega) B8.out.size).mono ?_
  rintro e w9 ⟨Am, nm, cm, lm, rfl, hb, hR, hM, hG, hn⟩
  have B9 := Asd.mk (B8.out.trans (hb.mono B8.out.size))
  replace Xa := Asd.mk (Rd.below Xa.out hb)
  replace Xb := Asd.mk (Rd.below Xb.out hb)
  replace Xc := Asd.mk (Rd.below Xc.out hb)
  replace Xp := Asd.mk (Rd.below Xp.out hb)
  replace Xq := Asd.mk (Rd.below Xq.out hb)
  replace Xx := Asd.mk (Rd.below Xx.out hb)
  replace Xy := Asd.mk (Rd.below Xy.out hb)
  clear B8
  have Xm := Asd.mk (hR w.heap.size)
  have Mm := Asd.mk hM
  have Gm := Asd.mk hG
  have Nm := Asd.mk hn
  clear hb hR hM hG hn
  go_wp2_with fail
  refine (MeetG (base := w.heap.size) Xa.out Xc.out Ga.out Gc.out (by omega) B9.out.size).mono ?_
  rintro e w10 ⟨Ar, nr, cr, lr, rfl, hb, hR, hM, hG, hn⟩
  have B10 := Asd.mk (B9.out.trans (hb.mono B9.out.size))
  replace Xa := Asd.mk (Rd.below Xa.out hb)
  replace Xb := Asd.mk (Rd.below Xb.out hb)
  replace Xc := Asd.mk (Rd.below Xc.out hb)
  replace Xp := Asd.mk (Rd.below Xp.out hb)
  replace Xq := Asd.mk (Rd.below Xq.out hb)
  replace Xx := Asd.mk (Rd.below Xx.out hb)
  replace Xy := Asd.mk (Rd.below Xy.out hb)
  replace Xm := Asd.mk (Rd.below Xm.out hb)
  clear B9
  have Xr := Asd.mk (hR w.heap.size)
  have Mr := Asd.mk hM
  have Gr := Asd.mk hG
  have Nr := Asd.mk hn
  clear hb hR hM hG hn
  go_wp2_with fail
  refine (MeetG (base := w.heap.size) Xa.out Xq.out Ga.out Gq.out (by omega) B10.out.size).mono ?_
  rintro e w11 ⟨As, ns, cs, ls, rfl, hb, hR, hM, hG, hn⟩
  have B11 := Asd.mk (B10.out.trans (hb.mono B10.out.size))
  replace Xa := Asd.mk (Rd.below Xa.out hb)
  replace Xb := Asd.mk (Rd.below Xb.out hb)
  replace Xc := Asd.mk (Rd.below Xc.out hb)
  replace Xp := Asd.mk (Rd.below Xp.out hb)
  replace Xq := Asd.mk (Rd.below Xq.out hb)
  replace Xx := Asd.mk (Rd.below Xx.out hb)
  replace Xy := Asd.mk (Rd.below Xy.out hb)
  replace Xm := Asd.mk (Rd.below Xm.out hb)
  replace Xr := Asd.mk (Rd.below Xr.out hb)
  clear B10
  have Xs := Asd.mk (hR w.heap.size)
  have Ms := Asd.mk hM
  have Gs := Asd.mk hG
  have Ns := Asd.mk hn
  clear hb hR hM hG hn
  go_wp2_with fail
  refine (UnionG (base := w.heap.size) Xm.out Xr.out Gm.out Gr.out (by omega) B11.out.size).mono ?_
  rintro e w12 ⟨At, nt, ct, lt, rfl, hb, hR, hM, hG, hn⟩
  have B12 := Asd.mk (B11.out.trans (hb.mono B11.out.size))
  replace Xa := Asd.mk (Rd.below Xa.out hb)
  replace Xb := Asd.mk (Rd.below Xb.out hb)
  replace Xc := Asd.mk (Rd.below Xc.out hb)
  replace Xp := Asd.mk (Rd.below Xp.out hb)
  replace Xq := Asd.mk (Rd.below Xq.out hb)
  replace Xx := Asd.mk (Rd.below Xx.out hb)
  replace Xy := Asd.mk (Rd.below Xy.out hb)
  replace Xm := Asd.mk (Rd.below Xm.out hb)
  replace Xr := Asd.mk (Rd.below Xr.out hb)
  replace Xs := Asd.mk (Rd.below Xs.out hb)
  clear B11
  have Xt := Asd.mk (hR w.heap.size)
  have Mt := Asd.mk hM
  have Gt := Asd.mk hG
  have Nt := Asd.mk hn
  clear hb hR hM hG hn
  go_wp2_with fail
  refine (MinusG (base := w.heap.size) Xa.out Xq.out Ga.out Gq.out (by omega) B12.out.size).mono ?_
  rintro e w13 ⟨Au, nu, cu, lu, rfl, hb, hR, hM, hG, hn⟩
  have B13 := Asd.mk (B12.out.trans (hb.mono B12.out.size))
  replace Xa := Asd.mk (Rd.below Xa.out hb)
  replace Xb := Asd.mk (Rd.below Xb.out hb)
  replace Xc := Asd.mk (Rd.below Xc.out hb)
  replace Xp := Asd.mk (Rd.below Xp.out hb)
  replace Xq := Asd.mk (Rd.below Xq.out hb)
  replace Xx := Asd.mk (Rd.below Xx.out hb)
  replace Xy := Asd.mk (Rd.below Xy.out hb)
  replace Xm := Asd.mk (Rd.below Xm.out hb)
  replace Xr := Asd.mk (Rd.below Xr.out hb)
  replace Xs := Asd.mk (Rd.below Xs.out hb)
  replace Xt := Asd.mk (Rd.below Xt.out hb)
  clear B12
  have Xu := Asd.mk (hR w.heap.size)
  have Mu := Asd.mk hM
  have Gu := Asd.mk hG
  have Nu := Asd.mk hn
  clear hb hR hM hG hn
  go_wp2_with fail
  refine (MinusG (base := w.heap.size) Xa.out Xb.out Ga.out Gb.out (by omega) B13.out.size).mono ?_
  rintro e w14 ⟨Ad, nd, cd, ld, rfl, hb, hR, hM, hG, hn⟩
  have B14 := Asd.mk (B13.out.trans (hb.mono B13.out.size))
  replace Xa := Asd.mk (Rd.below Xa.out hb)
  replace Xb := Asd.mk (Rd.below Xb.out hb)
  replace Xc := Asd.mk (Rd.below Xc.out hb)
  replace Xp := Asd.mk (Rd.below Xp.out hb)
  replace Xq := Asd.mk (Rd.below Xq.out hb)
  replace Xx := Asd.mk (Rd.below Xx.out hb)
  replace Xy := Asd.mk (Rd.below Xy.out hb)
  replace Xm := Asd.mk (Rd.below Xm.out hb)
  replace Xr := Asd.mk (Rd.below Xr.out hb)
  replace Xs := Asd.mk (Rd.below Xs.out hb)
  replace Xt := Asd.mk (Rd.below Xt.out hb)
  replace Xu := Asd.mk (Rd.below Xu.out hb)
  clear B13
  have Xd := Asd.mk (hR w.heap.size)
  have Md := Asd.mk hM
  have Gd := Asd.mk hG
  have Nd := Asd.mk hn
  clear hb hR hM hG hn
  go_wp2_with fail
  refine (MinusG (base := w.heap.size) Xd.out Xc.out Gd.out Gc.out (by omega) B14.out.size).mono ?_
  rintro e w15 ⟨Ae, ne, ce, le, rfl, hb, hR, hM, hG, hn⟩
  have B15 := Asd.mk (B14.out.trans (hb.mono B14.out.size))
  replace Xa := Asd.mk (Rd.below Xa.out hb)
  replace Xb := Asd.mk (Rd.below Xb.out hb)
  replace Xc := Asd.mk (Rd.below Xc.out hb)
  replace Xp := Asd.mk (Rd.below Xp.out hb)
  replace Xq := Asd.mk (Rd.below Xq.out hb)
  replace Xx := Asd.mk (Rd.below Xx.out hb)
  replace Xy := Asd.mk (Rd.below Xy.out hb)
  replace Xm := Asd.mk (Rd.below Xm.out hb)
  replace Xr := Asd.mk (Rd.below Xr.out hb)
  replace Xs := Asd.mk (Rd.below Xs.out hb)
  replace Xt := Asd.mk (Rd.below Xt.out hb)
  replace Xu := Asd.mk (Rd.below Xu.out hb)
  replace Xd := Asd.mk (Rd.below Xd.out hb)
  clear B14
  have Xe := Asd.mk (hR w.heap.size)
  have Me := Asd.mk hM
  have Ge := Asd.mk hG
  have Ne := Asd.mk hn
  clear hb hR hM hG hn
  go_wp2_with fail
  have hq := Mx.out.eq My.out (fun k => by rw [Mp.out.sem, Mq.out.sem]; unfold orB; cases inL la k <;> cases inL lb k <;> cases inL lc k <;> rfl)
  refine (SameSpans_calls (base := w.heap.size) Xx.out Xy.out (by have := Nx.out; have := Gx.out.1; omega)).mono ?_
  rw [decide_eq_true hq]
  clear hq
  rintro e w16 ⟨rfl, q, hq⟩
  have hb : Below w15.heap.size w15 w16 := hq ▸ below_dn _ _
  have B16 := Asd.mk (B15.out.trans (hb.mono B15.out.size))
  replace Xa := Asd.mk (Rd.below Xa.out hb)
  replace Xb := Asd.mk (Rd.below Xb.out hb)
  replace Xc := Asd.mk (Rd.below Xc.out hb)
  replace Xp := Asd.mk (Rd.below Xp.out hb)
  replace Xq := Asd.mk (Rd.below Xq.out hb)
  replace Xx := Asd.mk (Rd.below Xx.out hb)
  replace Xy := Asd.mk (Rd.below Xy.out hb)
  replace Xm := Asd.mk (Rd.below Xm.out hb)
  replace Xr := Asd.mk (Rd.below Xr.out hb)
  replace Xs := Asd.mk (Rd.below Xs.out hb)
  replace Xt := Asd.mk (Rd.below Xt.out hb)
  replace Xu := Asd.mk (Rd.below Xu.out hb)
  replace Xd := Asd.mk (Rd.below Xd.out hb)
  replace Xe := Asd.mk (Rd.below Xe.out hb)
  clear B15
  clear hb hq
  go_wp2_with fail
  have hq := Ms.out.eq Mt.out (fun k => by rw [Mq.out.sem, Mm.out.sem, Mr.out.sem]; unfold orB andB; cases inL la k <;> cases inL lb k <;> cases inL lc k <;> rfl)
  refine (SameSpans_calls (base := w.heap.size) Xs.out Xt.out (by have := Ns.out; have := Gs.out.1; omega)).mono ?_
  rw [decide_eq_true hq]
  clear hq
  rintro e w17 ⟨rfl, q, hq⟩
  have hb : Below w16.heap.size w16 w17 := hq ▸ below_dn _ _
  have B17 := Asd.mk (B16.out.trans (hb.mono B16.out.size))
  replace Xa := Asd.mk (Rd.below Xa.out hb)
  replace Xb := Asd.mk (Rd.below Xb.out hb)
  replace Xc := Asd.mk (Rd.below Xc.out hb)
  replace Xp := Asd.mk (Rd.below Xp.out hb)
  replace Xq := Asd.mk (Rd.below Xq.out hb)
  replace Xx := Asd.mk (Rd.below Xx.out hb)
  replace Xy := Asd.mk (Rd.below Xy.out hb)
  replace Xm := Asd.mk (Rd.below Xm.out hb)
  replace Xr := Asd.mk (Rd.below Xr.out hb)
  replace Xs := Asd.mk (Rd.below Xs.out hb)
  replace Xt := Asd.mk (Rd.below Xt.out hb)
  replace Xu := Asd.mk (Rd.below Xu.out hb)
  replace Xd := Asd.mk (Rd.below Xd.out hb)
  replace Xe := Asd.mk (Rd.below Xe.out hb)
  clear B16
  clear hb hq
  go_wp2_with fail
  have hq := Mu.out.eq Me.out (fun k => by rw [Mq.out.sem, Md.out.sem]; unfold notB orB; cases inL la k <;> cases inL lb k <;> cases inL lc k <;> rfl)
  refine (SameSpans_calls (base := w.heap.size) Xu.out Xe.out (by have := Nu.out; have := Gu.out.1; omega)).mono ?_
  rw [decide_eq_true hq]
  clear hq
  rintro e w18 ⟨rfl, q, hq⟩
  have hb : Below w17.heap.size w17 w18 := hq ▸ below_dn _ _
  have B18 := Asd.mk (B17.out.trans (hb.mono B17.out.size))
  replace Xa := Asd.mk (Rd.below Xa.out hb)
  replace Xb := Asd.mk (Rd.below Xb.out hb)
  replace Xc := Asd.mk (Rd.below Xc.out hb)
  replace Xp := Asd.mk (Rd.below Xp.out hb)
  replace Xq := Asd.mk (Rd.below Xq.out hb)
  replace Xx := Asd.mk (Rd.below Xx.out hb)
  replace Xy := Asd.mk (Rd.below Xy.out hb)
  replace Xm := Asd.mk (Rd.below Xm.out hb)
  replace Xr := Asd.mk (Rd.below Xr.out hb)
  replace Xs := Asd.mk (Rd.below Xs.out hb)
  replace Xt := Asd.mk (Rd.below Xt.out hb)
  replace Xu := Asd.mk (Rd.below Xu.out hb)
  replace Xd := Asd.mk (Rd.below Xd.out hb)
  replace Xe := Asd.mk (Rd.below Xe.out hb)
  clear B17
  clear hb hq
  go_wp2_with fail
  go_ret
  exact ⟨rfl, B18.out⟩
end Go.Proofs.Ytkjopeiohjkhoaa

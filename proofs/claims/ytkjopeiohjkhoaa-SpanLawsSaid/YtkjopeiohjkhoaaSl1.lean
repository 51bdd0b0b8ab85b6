/- SpanLaws, the walk. -/
import Derived.Test.YtkjopeiohjkhoaaSv
import Derived.Test.YtkjopeiohjkhoaaSg
set_option linter.unusedVariables false
set_option linter.unusedSimpArgs false
namespace Go.Proofs.Ytkjopeiohjkhoaa
open Go.RowKit Go.Sort
theorem nrm_at : ∀ {l : List SpanR}, Nrm l → ∀ i (hi : i + 1 < l.length), l[i].to_.size ≠ 0 ∧ klt l[i].to_ l[i + 1].from_
  | [], _, i, hi => absurd hi (by simp)
  | s :: r, h, 0, hi => ⟨fun e => (by have := h.2.1 e; subst this; simp at hi), h.2.2.1 _ (List.getElem_mem (by simpa using hi))⟩
  | s :: r, h, i + 1, hi => nrm_at h.2.2.2 i (by simpa using hi)
set_option maxHeartbeats 16000000 in
set_option maxRecDepth 100000 in
theorem SpanLaws_walk {w : World} {Aa : Option Addr} {na ca : Nat} {la : List SpanR} {Ab : Option Addr} {nb cb : Nat} {lb : List SpanR} (ha : Rd w.heap.size 35 w 2 Aa na ca (sCells la)) (hb : Rd w.heap.size 35 w 2 Ab nb cb (sCells lb)) :
    Calls Try.prog 4 #[.slice Aa na ca, .slice Ab nb cb] w fun e w' => e = .returned (.bool true) ∧ Below w.heap.size w w' := by
  have Xa := Asd.mk ha
  have Xb := Asd.mk hb
  clear ha hb
  go_enter Try.func4, Try.ntmps4
  go_wp2_with fail
  refine (works_calls _).mono ?_
  rintro e w1 ⟨rfl, hb⟩
  have B1 := Asd.mk hb
  replace Xa := Asd.mk (Rd.below Xa.out hb)
  replace Xb := Asd.mk (Rd.below Xb.out hb)
  clear hb
  go_wp2_with fail
  refine (sound_calls Xa.out).mono ?_
  rintro e w2 ⟨rfl, hb⟩
  have B2 := Asd.mk (B1.out.trans (hb.mono B1.out.size))
  replace Xa := Asd.mk (Rd.below Xa.out hb)
  replace Xb := Asd.mk (Rd.below Xb.out hb)
  clear B1
  clear hb
  by_cases hs : soundP la = true
  case neg =>
    rw [Bool.not_eq_true] at hs
    rw [hs]
    clear hs
    go_wp2_with fail
    go_ret
    exact ⟨rfl, B2.out⟩
  have Ga := Asd.mk (soundP_good hs)
  rw [hs]
  clear hs
  go_wp2_with fail
  refine (sound_calls Xb.out).mono ?_
  rintro e w3 ⟨rfl, hb⟩
  have B3 := Asd.mk (B2.out.trans (hb.mono B2.out.size))
  replace Xa := Asd.mk (Rd.below Xa.out hb)
  replace Xb := Asd.mk (Rd.below Xb.out hb)
  clear B2
  clear hb
  by_cases hs : soundP lb = true
  case neg =>
    rw [Bool.not_eq_true] at hs
    rw [hs]
    clear hs
    go_wp2_with fail
    go_ret
    exact ⟨rfl, B3.out⟩
  have Gb := Asd.mk (soundP_good hs)
  rw [hs]
  clear hs
  go_wp2_with fail
  refine (NormalG (base := w.heap.size) Xa.out Ga.out (by omega) B3.out.size).mono ?_
  rintro e w4 ⟨An, nn, cn, ln, rfl, hb, hR, hM, hG, hn⟩
  have B4 := Asd.mk (B3.out.trans (hb.mono B3.out.size))
  replace Xa := Asd.mk (Rd.below Xa.out hb)
  replace Xb := Asd.mk (Rd.below Xb.out hb)
  clear B3
  have Xn := Asd.mk (hR w.heap.size)
  have Mn := Asd.mk hM
  have Gn := Asd.mk hG
  have Nn := Asd.mk hn
  clear hb hR hM hG hn
  go_wp2_with fail
  refine (NormalG (base := w.heap.size) Xn.out Gn.out (by omega) B4.out.size).mono ?_
  rintro e w5 ⟨Ag, ng, cg, lg, rfl, hb, hR, hM, hG, hn⟩
  have B5 := Asd.mk (B4.out.trans (hb.mono B4.out.size))
  replace Xa := Asd.mk (Rd.below Xa.out hb)
  replace Xb := Asd.mk (Rd.below Xb.out hb)
  replace Xn := Asd.mk (Rd.below Xn.out hb)
  clear B4
  have Xg := Asd.mk (hR w.heap.size)
  have Mg := Asd.mk hM
  have Gg := Asd.mk hG
  have Ng := Asd.mk hn
  clear hb hR hM hG hn
  go_wp2_with fail
  refine (UnionG (base := w.heap.size) Xa.out Xb.out Ga.out Gb.out (by omega) B5.out.size).mono ?_
  rintro e w6 ⟨Au, nu, cu, lu, rfl, hb, hR, hM, hG, hn⟩
  have B6 := Asd.mk (B5.out.trans (hb.mono B5.out.size))
  replace Xa := Asd.mk (Rd.below Xa.out hb)
  replace Xb := Asd.mk (Rd.below Xb.out hb)
  replace Xn := Asd.mk (Rd.below Xn.out hb)
  replace Xg := Asd.mk (Rd.below Xg.out hb)
  clear B5
  have Xu := Asd.mk (hR w.heap.size)
  have Mu := Asd.mk hM
  have Gu := Asd.mk hG
  have Nu := Asd.mk hn
  clear hb hR hM hG hn
  go_wp2_with fail
  refine (UnionG (base := w.heap.size) Xb.out Xa.out Gb.out Ga.out (by omega) B6.out.size).mono ?_
  rintro e w7 ⟨Av, nv, cv, lv, rfl, hb, hR, hM, hG, hn⟩
  have B7 := Asd.mk (B6.out.trans (hb.mono B6.out.size))
  replace Xa := Asd.mk (Rd.below Xa.out hb)
  replace Xb := Asd.mk (Rd.below Xb.out hb)
  replace Xn := Asd.mk (Rd.below Xn.out hb)
  replace Xg := Asd.mk (Rd.below Xg.out hb)
  replace Xu := Asd.mk (Rd.below Xu.out hb)
  clear B6
  have Xv := Asd.mk (hR w.heap.size)
  have Mv := Asd.mk hM
  have Gv := Asd.mk hG
  have Nv := Asd.mk hn
  clear hb hR hM hG hn
  go_wp2_with fail
  refine (MeetG (base := w.heap.size) Xa.out Xb.out Ga.out Gb.out (by omega) B7.out.size).mono ?_
  rintro e w8 ⟨Am, nm, cm, lm, rfl, hb, hR, hM, hG, hn⟩
  have B8 := Asd.mk (B7.out.trans (hb.mono B7.out.size))
  replace Xa := Asd.mk (Rd.below Xa.out hb)
  replace Xb := Asd.mk (Rd.below Xb.out hb)
  replace Xn := Asd.mk (Rd.below Xn.out hb)
  replace Xg := Asd.mk (Rd.below Xg.out hb)
  replace Xu := Asd.mk (Rd.below Xu.out hb)
  replace Xv := Asd.mk (Rd.below Xv.out hb)
  clear B7
  have Xm := Asd.mk (hR w.heap.size)
  have Mm := Asd.mk hM
  have Gm := Asd.mk hG
  have Nm := Asd.mk hn
  clear hb hR hM hG hn
  go_wp2_with fail
  refine (MeetG (base := w.heap.size) Xb.out Xa.out Gb.out Ga.out (by omega) B8.out.size).mono ?_
  rintro e w9 ⟨Aw, nw, cw, lw, rfl, hb, hR, hM, hG, hn⟩
  have B9 := Asd.mk (B8.out.trans (hb.mono B8.out.size))
  replace Xa := Asd.mk (Rd.below Xa.out hb)
  replace Xb := Asd.mk (Rd.below Xb.out hb)
  replace Xn := Asd.mk (Rd.below Xn.out hb)
  replace Xg := Asd.mk (Rd.below Xg.out hb)
  replace Xu := Asd.mk (Rd.below Xu.out hb)
  replace Xv := Asd.mk (Rd.below Xv.out hb)
  replace Xm := Asd.mk (Rd.below Xm.out hb)
  clear B8
  have Xw := Asd.mk (hR w.heap.size)
  have Mw := Asd.mk hM
  have Gw := Asd.mk hG
  have Nw := Asd.mk hn
  clear hb hR hM hG hn
  go_wp2_with fail
  refine (MinusG (base := w.heap.size) Xa.out Xb.out Ga.out Gb.out (by omega) B9.out.size).mono ?_
  rintro e w10 ⟨Ad, nd, cd, ld, rfl, hb, hR, hM, hG, hn⟩
  have B10 := Asd.mk (B9.out.trans (hb.mono B9.out.size))
  replace Xa := Asd.mk (Rd.below Xa.out hb)
  replace Xb := Asd.mk (Rd.below Xb.out hb)
  replace Xn := Asd.mk (Rd.below Xn.out hb)
  replace Xg := Asd.mk (Rd.below Xg.out hb)
  replace Xu := Asd.mk (Rd.below Xu.out hb)
  replace Xv := Asd.mk (Rd.below Xv.out hb)
  replace Xm := Asd.mk (Rd.below Xm.out hb)
  replace Xw := Asd.mk (Rd.below Xw.out hb)
  clear B9
  have Xd := Asd.mk (hR w.heap.size)
  have Md := Asd.mk hM
  have Gd := Asd.mk hG
  have Nd := Asd.mk hn
  clear hb hR hM hG hn
  go_wp2_with fail
  refine (UnionG (base := w.heap.size) Xd.out Xm.out Gd.out Gm.out (by omega) B10.out.size).mono ?_
  rintro e w11 ⟨Ak, nk, ck, lk, rfl, hb, hR, hM, hG, hn⟩
  have B11 := Asd.mk (B10.out.trans (hb.mono B10.out.size))
  replace Xa := Asd.mk (Rd.below Xa.out hb)
  replace Xb := Asd.mk (Rd.below Xb.out hb)
  replace Xn := Asd.mk (Rd.below Xn.out hb)
  replace Xg := Asd.mk (Rd.below Xg.out hb)
  replace Xu := Asd.mk (Rd.below Xu.out hb)
  replace Xv := Asd.mk (Rd.below Xv.out hb)
  replace Xm := Asd.mk (Rd.below Xm.out hb)
  replace Xw := Asd.mk (Rd.below Xw.out hb)
  replace Xd := Asd.mk (Rd.below Xd.out hb)
  clear B10
  have Xk := Asd.mk (hR w.heap.size)
  have Mk := Asd.mk hM
  have Gk := Asd.mk hG
  have Nk := Asd.mk hn
  clear hb hR hM hG hn
  go_wp2_with fail
  refine (MinusG (base := w.heap.size) Xa.out Xa.out Ga.out Ga.out (by omega) B11.out.size).mono ?_
  rintro e w12 ⟨Az, nz, cz, lz, rfl, hb, hR, hM, hG, hn⟩
  have B12 := Asd.mk (B11.out.trans (hb.mono B11.out.size))
  replace Xa := Asd.mk (Rd.below Xa.out hb)
  replace Xb := Asd.mk (Rd.below Xb.out hb)
  replace Xn := Asd.mk (Rd.below Xn.out hb)
  replace Xg := Asd.mk (Rd.below Xg.out hb)
  replace Xu := Asd.mk (Rd.below Xu.out hb)
  replace Xv := Asd.mk (Rd.below Xv.out hb)
  replace Xm := Asd.mk (Rd.below Xm.out hb)
  replace Xw := Asd.mk (Rd.below Xw.out hb)
  replace Xd := Asd.mk (Rd.below Xd.out hb)
  replace Xk := Asd.mk (Rd.below Xk.out hb)
  clear B11
  have Xz := Asd.mk (hR w.heap.size)
  have Mz := Asd.mk hM
  have Gz := Asd.mk hG
  have Nz := Asd.mk hn
  clear hb hR hM hG hn
  go_wp2_with fail
  refine (MeetG (base := w.heap.size) Xd.out Xb.out Gd.out Gb.out (by omega) B12.out.size).mono ?_
  rintro e w13 ⟨At, nt, ct, lt, rfl, hb, hR, hM, hG, hn⟩
  have B13 := Asd.mk (B12.out.trans (hb.mono B12.out.size))
  replace Xa := Asd.mk (Rd.below Xa.out hb)
  replace Xb := Asd.mk (Rd.below Xb.out hb)
  replace Xn := Asd.mk (Rd.below Xn.out hb)
  replace Xg := Asd.mk (Rd.below Xg.out hb)
  replace Xu := Asd.mk (Rd.below Xu.out hb)
  replace Xv := Asd.mk (Rd.below Xv.out hb)
  replace Xm := Asd.mk (Rd.below Xm.out hb)
  replace Xw := Asd.mk (Rd.below Xw.out hb)
  replace Xd := Asd.mk (Rd.below Xd.out hb)
  replace Xk := Asd.mk (Rd.below Xk.out hb)
  replace Xz := Asd.mk (Rd.below Xz.out hb)
  clear B12
  have Xt := Asd.mk (hR w.heap.size)
  have Mt := Asd.mk hM
  have Gt := Asd.mk hG
  have Nt := Asd.mk hn
  clear hb hR hM hG hn
  obtain rfl := Mz.out.nil (fun k => by unfold notB; cases inL la k <;> rfl)
  obtain rfl := Nz.out
  obtain rfl := Mt.out.nil (fun k => by rw [Md.out.sem]; unfold andB notB; cases inL la k <;> cases inL lb k <;> rfl)
  obtain rfl := Nt.out
  go_wp2_with fail
  have hq := Mn.out.eq Mg.out (fun k => by rw [Mn.out.sem, inL_nil]; unfold orB; cases inL la k <;> rfl)
  refine (SameSpans_calls (base := w.heap.size) Xn.out Xg.out (by have := Nn.out; have := Gn.out.1; omega)).mono ?_
  rw [decide_eq_true hq]
  clear hq
  rintro e w14 ⟨rfl, q, hq⟩
  have hb : Below w13.heap.size w13 w14 := hq ▸ below_dn _ _
  have B14 := Asd.mk (B13.out.trans (hb.mono B13.out.size))
  replace Xa := Asd.mk (Rd.below Xa.out hb)
  replace Xb := Asd.mk (Rd.below Xb.out hb)
  replace Xn := Asd.mk (Rd.below Xn.out hb)
  replace Xg := Asd.mk (Rd.below Xg.out hb)
  replace Xu := Asd.mk (Rd.below Xu.out hb)
  replace Xv := Asd.mk (Rd.below Xv.out hb)
  replace Xm := Asd.mk (Rd.below Xm.out hb)
  replace Xw := Asd.mk (Rd.below Xw.out hb)
  replace Xd := Asd.mk (Rd.below Xd.out hb)
  replace Xk := Asd.mk (Rd.below Xk.out hb)
  replace Xz := Asd.mk (Rd.below Xz.out hb)
  replace Xt := Asd.mk (Rd.below Xt.out hb)
  clear B13
  clear hb hq
  go_wp2_with fail
  have hq := Mu.out.eq Mv.out (fun k => by unfold orB; cases inL la k <;> cases inL lb k <;> rfl)
  refine (SameSpans_calls (base := w.heap.size) Xu.out Xv.out (by have := Nu.out; have := Gu.out.1; omega)).mono ?_
  rw [decide_eq_true hq]
  clear hq
  rintro e w15 ⟨rfl, q, hq⟩
  have hb : Below w14.heap.size w14 w15 := hq ▸ below_dn _ _
  have B15 := Asd.mk (B14.out.trans (hb.mono B14.out.size))
  replace Xa := Asd.mk (Rd.below Xa.out hb)
  replace Xb := Asd.mk (Rd.below Xb.out hb)
  replace Xn := Asd.mk (Rd.below Xn.out hb)
  replace Xg := Asd.mk (Rd.below Xg.out hb)
  replace Xu := Asd.mk (Rd.below Xu.out hb)
  replace Xv := Asd.mk (Rd.below Xv.out hb)
  replace Xm := Asd.mk (Rd.below Xm.out hb)
  replace Xw := Asd.mk (Rd.below Xw.out hb)
  replace Xd := Asd.mk (Rd.below Xd.out hb)
  replace Xk := Asd.mk (Rd.below Xk.out hb)
  replace Xz := Asd.mk (Rd.below Xz.out hb)
  replace Xt := Asd.mk (Rd.below Xt.out hb)
  clear B14
  clear hb hq
  go_wp2_with fail
  have hq := Mm.out.eq Mw.out (fun k => by unfold andB; cases inL la k <;> cases inL lb k <;> rfl)
  refine (SameSpans_calls (base := w.heap.size) Xm.out Xw.out (by have := Nm.out; have := Gm.out.1; omega)).mono ?_
  rw [decide_eq_true hq]
  clear hq
  rintro e w16 ⟨rfl, q, hq⟩
  have hb : Below w15.heap.size w15 w16 := hq ▸ below_dn _ _
  have B16 := Asd.mk (B15.out.trans (hb.mono B15.out.size))
  replace Xa := Asd.mk (Rd.below Xa.out hb)
  replace Xb := Asd.mk (Rd.below Xb.out hb)
  replace Xn := Asd.mk (Rd.below Xn.out hb)
  replace Xg := Asd.mk (Rd.below Xg.out hb)
  replace Xu := Asd.mk (Rd.below Xu.out hb)
  replace Xv := Asd.mk (Rd.below Xv.out hb)
  replace Xm := Asd.mk (Rd.below Xm.out hb)
  replace Xw := Asd.mk (Rd.below Xw.out hb)
  replace Xd := Asd.mk (Rd.below Xd.out hb)
  replace Xk := Asd.mk (Rd.below Xk.out hb)
  replace Xz := Asd.mk (Rd.below Xz.out hb)
  replace Xt := Asd.mk (Rd.below Xt.out hb)
  clear B15
  clear hb hq
  go_wp2_with fail
  have hq := Mk.out.eq Mn.out (fun k => by rw [Md.out.sem, Mm.out.sem, inL_nil]; unfold orB andB notB; cases inL la k <;> cases inL lb k <;> rfl)
  refine (SameSpans_calls (base := w.heap.size) Xk.out Xn.out (by have := Nk.out; have := Gk.out.1; omega)).mono ?_
  rw [decide_eq_true hq]
  clear hq
  rintro e w17 ⟨rfl, q, hq⟩
  have hb : Below w16.heap.size w16 w17 := hq ▸ below_dn _ _
  have B17 := Asd.mk (B16.out.trans (hb.mono B16.out.size))
  replace Xa := Asd.mk (Rd.below Xa.out hb)
  replace Xb := Asd.mk (Rd.below Xb.out hb)
  replace Xn := Asd.mk (Rd.below Xn.out hb)
  replace Xg := Asd.mk (Rd.below Xg.out hb)
  replace Xu := Asd.mk (Rd.below Xu.out hb)
  replace Xv := Asd.mk (Rd.below Xv.out hb)
  replace Xm := Asd.mk (Rd.below Xm.out hb)
  replace Xw := Asd.mk (Rd.below Xw.out hb)
  replace Xd := Asd.mk (Rd.below Xd.out hb)
  replace Xk := Asd.mk (Rd.below Xk.out hb)
  replace Xz := Asd.mk (Rd.below Xz.out hb)
  replace Xt := Asd.mk (Rd.below Xt.out hb)
  clear B16
  clear hb hq
  have hmix : Try.prog.follows .mixedOrders = true := by kernel_rfl
  have NR := Asd.mk Mn.out.nrm
  have hn6 : nn ≤ 1000 := by have := Nn.out; have := Gn.out.1; omega
  clear Xa Xb Xg Xu Xv Xm Xw Xd Xk Xz Xt Ga Gb Gg Gu Gv Gm Gw Gd Gk Gz Gt Mn Mg Mu Mv Mm Mw Md Mk Mz Mt Ng Nu Nv Nm Nw Nd Nk
  go_wp2_with fail
  go_loopw [133] (fun s133 wr => ∃ i : Nat, s133 = .int .i64 i ∧ i ≤ nn ∧ Asd (Below w.heap.size w wr) ∧ Asd (Rd w.heap.size 35 wr 2 An nn cn (sCells ln))) (fun s133 _ => nn - (intOf s133).toNat)
  case atStart => exact ⟨0, rfl, Nat.zero_le _, B17, Xn⟩
  case round =>
    clear Xn B17
    obtain ⟨i, rfl, hi, BW, Xn⟩ := hrel
    by_cases hlt : i < nn
    · obtain ⟨b, off, rfl, hb, hl, hcs⟩ := Xn.out.at_enc (enc := SpanR.enc) (fun _ => rfl) (by omega) hlt
      have hcap : i < cn := Nat.lt_of_lt_of_le hlt Xn.out.cap
      have hok := (spOk_iff ln[i]).1 (Gn.out.2 _ (List.getElem_mem hl))
      have hpv : ∀ j, j + 1 = i → ∃ pt : ByteArray, wr.cell? ⟨b, off + j * 2 + 1, none⟩ = some (.string pt) ∧ pt.size ≠ 0 ∧ klt pt ln[i].from_ := fun j hj => by
        subst hj
        obtain ⟨b', off', hA', _, hl', hcs'⟩ := Xn.out.at_enc (enc := SpanR.enc) (fun _ => rfl) (by omega) (show j < nn by omega)
        cases hA'
        have h1 := nrm_at NR.out j hl
        exact ⟨ln[j].to_, hcs' 1 _ rfl, h1⟩
      have HPV := Asd.mk hpv
      clear hpv
      generalize ln[i] = s at hcs hok HPV
      obtain ⟨f, t⟩ := s
      have c0 : wr.cell? ⟨b, off + i * 2, none⟩ = some (.string f) := hcs 0 _ rfl
      have c1 : wr.cell? ⟨b, off + i * 2 + 1, none⟩ = some (.string t) := hcs 1 _ rfl
      have hck : ∀ W, Calls Try.prog 22 #[.agg #[.string f, .string t]] W fun e w' => e = .returned (.int .i64 0) ∧ ∃ q os', w' = grow (W.drewN q) os' := fun W => SpanCheck_okg ⟨f, t⟩ hok.1 hok.2.1 hok.2.2 W
      have CKG := Asd.mk hck
      have hal : Below wr.heap.size wr (wr.alloc (.cells #[.string f, .string t] 35)) := (Below.refl _ _).alloc (Nat.le_refl _) _
      have x0 : (wr.alloc (.cells #[.string f, .string t] 35)).cell? ⟨wr.heap.size, 0, none⟩ = some (.string f) := (cell_of_row _ _ 0 _ _ _ (heap_alloc_new wr _)).trans rfl
      have x1 : (wr.alloc (.cells #[.string f, .string t] 35)).cell? ⟨wr.heap.size, 1, none⟩ = some (.string t) := (cell_of_row _ _ 1 _ _ _ (heap_alloc_new wr _)).trans rfl
      have X0 := Asd.mk x0
      have X1 := Asd.mk x1
      have AL := Asd.mk hal
      have HB := Asd.mk hb
      have ZA : Asd (wr.heap.size < (wr.alloc (.cells #[.string f, .string t] 35)).heap.size) := ⟨by simp⟩
      clear hcs hok hck x0 x1 hal hb
      go_wp2_with fail
      clear c0 c1
      have B4 := Asd.mk (BW.out.trans (AL.out.mono BW.out.size))
      have X4 := Asd.mk (Rd.below Xn.out AL.out)
      have HPV4 : Asd (∀ j, j + 1 = i → ∃ pt : ByteArray, (wr.alloc (.cells #[.string f, .string t] 35)).cell? ⟨b, off + j * 2 + 1, none⟩ = some (.string pt) ∧ pt.size ≠ 0 ∧ klt pt f) := ⟨fun j hj => by
        obtain ⟨pt, h1, h2⟩ := HPV.out j hj
        exact ⟨pt, ((bcell AL.out).1 b _ HB.out).trans h1, h2⟩⟩
      have ZB : Asd (b < (wr.alloc (.cells #[.string f, .string t] 35)).heap.size) := ⟨Nat.lt_trans HB.out ZA.out⟩
      clear HPV BW Xn AL HB
      generalize (wr.alloc (.cells #[.string f, .string t] 35)) = w4 at *
      generalize wr.heap.size = xb at *
      have x0 := X0.out
      have x1 := X1.out
      have hi6 : i ≤ 1000 := by omega
      by_cases hi0 : 0 < i
      · obtain ⟨j, hj⟩ : ∃ j, j + 1 = i := ⟨i - 1, by omega⟩
        obtain ⟨pt, d1, hpz, hpl⟩ := HPV4.out j hj
        have D1 := Asd.mk d1
        have hjn : j < nn := by omega
        have hjc : j < cn := by omega
        have hw := (wrap_in (z := (i : Int) - 1) (by omega)).1
        have hw' := (wrap_in (z := (i : Int) - 1) (by omega)).2
        have hij : (i : Int) - 1 = (j : Int) := by omega
        rw [hij] at hw hw'
        have hw1 : wrap64 ((i : Int) - 1) = (j : Int) := by rw [hij]; exact hw
        have hw2 : IntKind.i64.wrap ((i : Int) - 1) = (j : Int) := by rw [hij]; exact hw'
        have htl : ¬ pt.toList = [] := by rw [tl_nil]; exact hpz
        have hie : pt.toList.isEmpty = false := by rw [empty_eq]; exact decide_eq_false hpz
        have hte : ¬ pt = ByteArray.empty := by rw [emp_iff]; exact htl
        have hls : Op.bytesLess pt.toList f.toList = true := by rw [less_eq]; exact decide_eq_true hpl
        have hi1 : (0 : Int) < (i : Int) := by omega
        clear hpz hpl hj hij hw hw' HPV4
        have z0 : ∀ q os, (grow (w4.drewN q) os).cell? ⟨xb, 0, none⟩ = some (.string f) := cell_grown ZA.out X0.out
        have z1 : ∀ q os, (grow (w4.drewN q) os).cell? ⟨xb, 1, none⟩ = some (.string t) := cell_grown ZA.out X1.out
        have e1 : ∀ q os, (grow (w4.drewN q) os).cell? ⟨b, off + j * 2 + 1, none⟩ = some (.string pt) := cell_grown ZB.out D1.out
        clear x0 x1 d1
        refine wp_region_quiet_grown hmix (by kernel_rfl) ?_
        repeat (go_big_quiet_step (first | (go_at_call 22; exact Calls.grown_of (CKG.out _))))
        refine wpQuiet_nil ?_
        intro _ hw'
        obtain ⟨⟨nq, osq⟩, hw''⟩ := hw'
        subst hw''
        clear hw1 hw2 z0 z1 e1
        have B5 := Asd.mk (B4.out.trans ((below_grown w4 nq osq).mono B4.out.size))
        have X5 := Asd.mk (X4.out.below (below_grown w4 nq osq))
        generalize grow (w4.drewN nq) osq = w5 at *
        go_wp2_with fail
        go_roundw
        case measure => simp [intOf]; omega
        case rel => exact ⟨i + 1, by go_num, by omega, B5, X5⟩
      · have hi1 : ¬ (0 : Int) < (i : Int) := by omega
        have hi2 : (i : Int) ≤ 0 := by omega
        have hi3 : decide ((0 : Int) < (i : Int)) = false := decide_eq_false hi1
        have hi4 : decide (0 < i) = false := decide_eq_false hi0
        have hi5 : i = 0 := by omega
        clear HPV4
        have z0 : ∀ q os, (grow (w4.drewN q) os).cell? ⟨xb, 0, none⟩ = some (.string f) := cell_grown ZA.out X0.out
        have z1 : ∀ q os, (grow (w4.drewN q) os).cell? ⟨xb, 1, none⟩ = some (.string t) := cell_grown ZA.out X1.out
        clear x0 x1
        refine wp_region_quiet_grown hmix (by kernel_rfl) ?_
        repeat (go_big_quiet_step (first | (go_at_call 22; exact Calls.grown_of (CKG.out _))))
        refine wpQuiet_nil ?_
        intro _ hw'
        obtain ⟨⟨nq, osq⟩, hw''⟩ := hw'
        subst hw''
        clear z0 z1
        have B5 := Asd.mk (B4.out.trans ((below_grown w4 nq osq).mono B4.out.size))
        have X5 := Asd.mk (X4.out.below (below_grown w4 nq osq))
        generalize grow (w4.drewN nq) osq = w5 at *
        go_wp2_with fail
        go_roundw
        case measure => simp [intOf]; omega
        case rel => exact ⟨i + 1, by go_num, by omega, B5, X5⟩
    · go_wp2_with fail
      go_ret
      exact ⟨rfl, BW.out⟩
end Go.Proofs.Ytkjopeiohjkhoaa

/- SpanKeys, the walk. -/
import Derived.Test.YtkjopeiohjkhoaaSv
import Derived.Test.YtkjopeiohjkhoaaSh
set_option linter.unusedVariables false
set_option linter.unusedSimpArgs false
namespace Go.Proofs.Ytkjopeiohjkhoaa
open Go.RowKit
set_option maxHeartbeats 16000000 in
set_option maxRecDepth 100000 in
theorem SpanKeys_walk {w : World} {Aa : Option Addr} {na ca : Nat} {la : List SpanR} {Ab : Option Addr} {nb cb : Nat} {lb : List SpanR} (ha : Rd w.heap.size 35 w 2 Aa na ca (sCells la)) (hb : Rd w.heap.size 35 w 2 Ab nb cb (sCells lb)) (key : ByteArray) :
    Calls Try.prog 9 #[.slice Aa na ca, .slice Ab nb cb, .string key] w fun e w' => e = .returned (.bool true) ∧ Below w.heap.size w w' := by
  have Xa := Asd.mk ha
  have Xb := Asd.mk hb
  clear ha hb
  go_enter Try.func9, Try.ntmps9
  go_wp2_with fail
  refine (works_calls _).mono ?_
  rintro e w1 ⟨rfl, hb⟩
  have B1 := Asd.mk hb
  replace Xa := Asd.mk (Rd.below Xa.out hb)
  replace Xb := Asd.mk (Rd.below Xb.out hb)
  clear hb
  go_wp2_with fail
  refine (sound_calls Xa.out).mono ?_
  rintro e w2 ⟨rfl, hb⟩
  have B2 := Asd.mk (B1.out.trans (hb.mono B1.out.size))
  replace Xa := Asd.mk (Rd.below Xa.out hb)
  replace Xb := Asd.mk (Rd.below Xb.out hb)
  clear B1
  clear hb
  by_cases hs : soundP la = true
  case neg =>
    rw [Bool.not_eq_true] at hs
    rw [hs]
    clear hs
    go_wp2_with fail
    go_ret
    exact ⟨rfl, B2.out⟩
  have Ga := Asd.mk (soundP_good hs)
  rw [hs]
  clear hs
  go_wp2_with fail
  refine (sound_calls Xb.out).mono ?_
  rintro e w3 ⟨rfl, hb⟩
  have B3 := Asd.mk (B2.out.trans (hb.mono B2.out.size))
  replace Xa := Asd.mk (Rd.below Xa.out hb)
  replace Xb := Asd.mk (Rd.below Xb.out hb)
  clear B2
  clear hb
  by_cases hs : soundP lb = true
  case neg =>
    rw [Bool.not_eq_true] at hs
    rw [hs]
    clear hs
    go_wp2_with fail
    go_ret
    exact ⟨rfl, B3.out⟩
  have Gb := Asd.mk (soundP_good hs)
  rw [hs]
  clear hs
  go_wp2_with fail
  refine (UnionG (base := w.heap.size) Xa.out Xb.out Ga.out Gb.out (by omega) B3.out.size).mono ?_
  rintro e w4 ⟨Au, nu, cu, lu, rfl, hb, hR, hM, hG, hn⟩
  have B4 := Asd.mk (B3.out.trans (hb.mono B3.out.size))
  replace Xa := Asd.mk (Rd.below Xa.out hb)
  replace Xb := Asd.mk (Rd.below Xb.out hb)
  clear B3
  have Xu := Asd.mk (hR w.heap.size)
  have Mu := Asd.mk hM
  have Gu := Asd.mk hG
  have Nu := Asd.mk hn
  clear hb hR hM hG hn
  go_wp2_with fail
  refine (MeetG (base := w.heap.size) Xa.out Xb.out Ga.out Gb.out (by omega) B4.out.size).mono ?_
  rintro e w5 ⟨Am, nm, cm, lm, rfl, hb, hR, hM, hG, hn⟩
  have B5 := Asd.mk (B4.out.trans (hb.mono B4.out.size))
  replace Xa := Asd.mk (Rd.below Xa.out hb)
  replace Xb := Asd.mk (Rd.below Xb.out hb)
  replace Xu := Asd.mk (Rd.below Xu.out hb)
  clear B4
  have Xm := Asd.mk (hR w.heap.size)
  have Mm := Asd.mk hM
  have Gm := Asd.mk hG
  have Nm := Asd.mk hn
  clear hb hR hM hG hn
  go_wp2_with fail
  refine (MinusG (base := w.heap.size) Xa.out Xb.out Ga.out Gb.out (by omega) B5.out.size).mono ?_
  rintro e w6 ⟨Ad, nd, cd, ld, rfl, hb, hR, hM, hG, hn⟩
  have B6 := Asd.mk (B5.out.trans (hb.mono B5.out.size))
  replace Xa := Asd.mk (Rd.below Xa.out hb)
  replace Xb := Asd.mk (Rd.below Xb.out hb)
  replace Xu := Asd.mk (Rd.below Xu.out hb)
  replace Xm := Asd.mk (Rd.below Xm.out hb)
  clear B5
  have Xd := Asd.mk (hR w.heap.size)
  have Md := Asd.mk hM
  have Gd := Asd.mk hG
  have Nd := Asd.mk hn
  clear hb hR hM hG hn
  go_wp2_with fail
  refine (NormalG (base := w.heap.size) Xa.out Ga.out (by omega) B6.out.size).mono ?_
  rintro e w7 ⟨An, nn, cn, ln, rfl, hb, hR, hM, hG, hn⟩
  have B7 := Asd.mk (B6.out.trans (hb.mono B6.out.size))
  replace Xa := Asd.mk (Rd.below Xa.out hb)
  replace Xb := Asd.mk (Rd.below Xb.out hb)
  replace Xu := Asd.mk (Rd.below Xu.out hb)
  replace Xm := Asd.mk (Rd.below Xm.out hb)
  replace Xd := Asd.mk (Rd.below Xd.out hb)
  clear B6
  have Xn := Asd.mk (hR w.heap.size)
  have Mn := Asd.mk hM
  have Gn := Asd.mk hG
  have Nn := Asd.mk hn
  clear hb hR hM hG hn
  have Na := Asd.mk (Xa.out.count (enc := SpanR.enc) (fun _ => rfl) (by omega))
  have Nb := Asd.mk (Xb.out.count (enc := SpanR.enc) (fun _ => rfl) (by omega))
  obtain ⟨x, hx⟩ : ∃ x, inL la key = x := ⟨_, rfl⟩
  obtain ⟨y, hy⟩ : ∃ y, inL lb key = y := ⟨_, rfl⟩
  have VX := Asd.mk hx
  have VY := Asd.mk hy
  clear hx hy
  go_wp2_with fail
  refine (Has_calls (base := w.heap.size) Xa.out (by have := Na.out; have := Ga.out.1; omega) key).mono ?_
  rw [show la.any (hasP key) = x from VX.out]
  rintro e w8 ⟨rfl, hb⟩
  have B8 := Asd.mk (B7.out.trans (hb.mono B7.out.size))
  replace Xa := Asd.mk (Rd.below Xa.out hb)
  replace Xb := Asd.mk (Rd.below Xb.out hb)
  replace Xu := Asd.mk (Rd.below Xu.out hb)
  replace Xm := Asd.mk (Rd.below Xm.out hb)
  replace Xd := Asd.mk (Rd.below Xd.out hb)
  replace Xn := Asd.mk (Rd.below Xn.out hb)
  clear B7
  clear hb
  go_wp2_with fail
  refine (Has_calls (base := w.heap.size) Xb.out (by have := Nb.out; have := Gb.out.1; omega) key).mono ?_
  rw [show lb.any (hasP key) = y from VY.out]
  rintro e w9 ⟨rfl, hb⟩
  have B9 := Asd.mk (B8.out.trans (hb.mono B8.out.size))
  replace Xa := Asd.mk (Rd.below Xa.out hb)
  replace Xb := Asd.mk (Rd.below Xb.out hb)
  replace Xu := Asd.mk (Rd.below Xu.out hb)
  replace Xm := Asd.mk (Rd.below Xm.out hb)
  replace Xd := Asd.mk (Rd.below Xd.out hb)
  replace Xn := Asd.mk (Rd.below Xn.out hb)
  clear B8
  clear hb
  have Hu : Asd (lu.any (hasP key) = (x || y)) := ⟨by have h := Mu.out.sem key; rw [VX.out, VY.out] at h; exact h⟩
  have Hm : Asd (lm.any (hasP key) = (x && y)) := ⟨by have h := Mm.out.sem key; rw [VX.out, VY.out] at h; exact h⟩
  have Hd : Asd (ld.any (hasP key) = (x && !y)) := ⟨by have h := Md.out.sem key; rw [VX.out, VY.out] at h; exact h⟩
  have Hn : Asd (ln.any (hasP key) = x) := ⟨by have h := Mn.out.sem key; rw [VX.out, inL_nil] at h; exact h.trans (Bool.or_false x)⟩
  cases x <;> cases y
  all_goals
    go_wp2_with fail
    refine (Has_calls (base := w.heap.size) Xu.out (by have := Nu.out; have := Gu.out.1; omega) key).mono ?_
    rw [Hu.out]
    rintro e w10 ⟨rfl, hb⟩
    have B10 := Asd.mk (B9.out.trans (hb.mono B9.out.size))
    replace Xa := Asd.mk (Rd.below Xa.out hb)
    replace Xb := Asd.mk (Rd.below Xb.out hb)
    replace Xu := Asd.mk (Rd.below Xu.out hb)
    replace Xm := Asd.mk (Rd.below Xm.out hb)
    replace Xd := Asd.mk (Rd.below Xd.out hb)
    replace Xn := Asd.mk (Rd.below Xn.out hb)
    clear B9
    clear hb
    go_wp2_with fail
    refine (Has_calls (base := w.heap.size) Xm.out (by have := Nm.out; have := Gm.out.1; omega) key).mono ?_
    rw [Hm.out]
    rintro e w11 ⟨rfl, hb⟩
    have B11 := Asd.mk (B10.out.trans (hb.mono B10.out.size))
    replace Xa := Asd.mk (Rd.below Xa.out hb)
    replace Xb := Asd.mk (Rd.below Xb.out hb)
    replace Xu := Asd.mk (Rd.below Xu.out hb)
    replace Xm := Asd.mk (Rd.below Xm.out hb)
    replace Xd := Asd.mk (Rd.below Xd.out hb)
    replace Xn := Asd.mk (Rd.below Xn.out hb)
    clear B10
    clear hb
    go_wp2_with fail
    refine (Has_calls (base := w.heap.size) Xd.out (by have := Nd.out; have := Gd.out.1; omega) key).mono ?_
    rw [Hd.out]
    rintro e w12 ⟨rfl, hb⟩
    have B12 := Asd.mk (B11.out.trans (hb.mono B11.out.size))
    replace Xa := Asd.mk (Rd.below Xa.out hb)
    replace Xb := Asd.mk (Rd.below Xb.out hb)
    replace Xu := Asd.mk (Rd.below Xu.out hb)
    replace Xm := Asd.mk (Rd.below Xm.out hb)
    replace Xd := Asd.mk (Rd.below Xd.out hb)
    replace Xn := Asd.mk (Rd.below Xn.out hb)
    clear B11
    clear hb
    go_wp2_with fail
    refine (Has_calls (base := w.heap.size) Xn.out (by have := Nn.out; have := Gn.out.1; omega) key).mono ?_
    rw [Hn.out]
    rintro e w13 ⟨rfl, hb⟩
    have B13 := Asd.mk (B12.out.trans (hb.mono B12.out.size))
    replace Xa := Asd.mk (Rd.below Xa.out hb)
    replace Xb := Asd.mk (Rd.below Xb.out hb)
    replace Xu := Asd.mk (Rd.below Xu.out hb)
    replace Xm := Asd.mk (Rd.below Xm.out hb)
    replace Xd := Asd.mk (Rd.below Xd.out hb)
    replace Xn := Asd.mk (Rd.below Xn.out hb)
    clear B12
    clear hb
    go_wp2_with fail
    go_ret
    exact ⟨rfl, B13.out⟩
end Go.Proofs.Ytkjopeiohjkhoaa

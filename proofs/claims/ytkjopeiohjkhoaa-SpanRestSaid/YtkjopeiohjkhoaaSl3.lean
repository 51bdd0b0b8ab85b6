/- SpanRest, the walk. -/
import Derived.Test.YtkjopeiohjkhoaaSv
set_option linter.unusedVariables false
set_option linter.unusedSimpArgs false
namespace Go.Proofs.Ytkjopeiohjkhoaa
open Go.RowKit
def xAll : List SpanR := [⟨⟨#[]⟩, ⟨#[]⟩⟩]
theorem inL_all (k : ByteArray) : inL xAll k = true := by
  rw [inL_iff]
  exact ⟨_, List.mem_singleton.2 rfl, klt_nil k, .inl rfl⟩
theorem xAll_good : Good 1 xAll := ⟨by decide, by decide⟩
theorem xAll_nrm : Nrm xAll := ⟨.inl rfl, fun _ => rfl, fun _ h => (by cases h), trivial⟩
set_option maxHeartbeats 16000000 in
set_option maxRecDepth 100000 in
theorem SpanRest_walk {w : World} {Aa : Option Addr} {na ca : Nat} {la : List SpanR} (ha : Rd w.heap.size 35 w 2 Aa na ca (sCells la)) :
    Calls Try.prog 6 #[.slice Aa na ca] w fun e w' => e = .returned (.bool true) ∧ Below w.heap.size w w' := by
  have Xa := Asd.mk ha
  clear ha
  go_enter Try.func6, Try.ntmps6
  go_wp2_with fail
  refine (works_calls _).mono ?_
  rintro e w1 ⟨rfl, hb⟩
  have B1 := Asd.mk hb
  replace Xa := Asd.mk (Rd.below Xa.out hb)
  clear hb
  go_wp2_with fail
  refine (sound_calls Xa.out).mono ?_
  rintro e w2 ⟨rfl, hb⟩
  have B2 := Asd.mk (B1.out.trans (hb.mono B1.out.size))
  replace Xa := Asd.mk (Rd.below Xa.out hb)
  clear B1
  clear hb
  by_cases hs : soundP la = true
  case neg =>
    rw [Bool.not_eq_true] at hs
    rw [hs]
    clear hs
    go_wp2_with fail
    go_ret
    exact ⟨rfl, B2.out⟩
  have Ga := Asd.mk (soundP_good hs)
  rw [hs]
  clear hs
  go_wp2_with fail
  have hb : Below w2.heap.size w2 (w2.alloc (.cells #[.string ⟨#[]⟩, .string ⟨#[]⟩] 35)) := (Below.refl _ _).alloc (Nat.le_refl _) _
  have B3 := Asd.mk (B2.out.trans (hb.mono B2.out.size))
  replace Xa := Asd.mk (Rd.below Xa.out hb)
  clear B2
  have Xl : Asd (Rd w.heap.size 35 (w2.alloc (.cells #[.string ⟨#[]⟩, .string ⟨#[]⟩] 35)) 2 (some ⟨w2.heap.size, 0, none⟩) 1 1 (sCells xAll)) := ⟨Rd.new_ rfl rfl⟩
  clear hb
  generalize w2.heap.size = zl at Xl ⊢
  generalize (w2.alloc (.cells #[.string ⟨#[]⟩, .string ⟨#[]⟩] 35)) = w3 at B3 Xa Xl ⊢
  have Gl := Asd.mk xAll_good
  go_wp2_with fail
  refine (NormalG (base := w.heap.size) Xa.out Ga.out (by omega) B3.out.size).mono ?_
  rintro e w4 ⟨An, nn, cn, ln, rfl, hb, hR, hM, hG, hn⟩
  have B4 := Asd.mk (B3.out.trans (hb.mono B3.out.size))
  replace Xa := Asd.mk (Rd.below Xa.out hb)
  replace Xl := Asd.mk (Rd.below Xl.out hb)
  clear B3
  have Xn := Asd.mk (hR w.heap.size)
  have Mn := Asd.mk hM
  have Gn := Asd.mk hG
  have Nn := Asd.mk hn
  clear hb hR hM hG hn
  go_wp2_with fail
  refine (MinusG (base := w.heap.size) Xl.out Xa.out Gl.out Ga.out (by omega) B4.out.size).mono ?_
  rintro e w5 ⟨Ar, nr, cr, lr, rfl, hb, hR, hM, hG, hn⟩
  have B5 := Asd.mk (B4.out.trans (hb.mono B4.out.size))
  replace Xa := Asd.mk (Rd.below Xa.out hb)
  replace Xl := Asd.mk (Rd.below Xl.out hb)
  replace Xn := Asd.mk (Rd.below Xn.out hb)
  clear B4
  have Xr := Asd.mk (hR w.heap.size)
  have Mr := Asd.mk hM
  have Gr := Asd.mk hG
  have Nr := Asd.mk hn
  clear hb hR hM hG hn
  go_wp2_with fail
  refine (MinusG (base := w.heap.size) Xl.out Xr.out Gl.out Gr.out (by omega) B5.out.size).mono ?_
  rintro e w6 ⟨Ak, nk, ck, lk, rfl, hb, hR, hM, hG, hn⟩
  have B6 := Asd.mk (B5.out.trans (hb.mono B5.out.size))
  replace Xa := Asd.mk (Rd.below Xa.out hb)
  replace Xl := Asd.mk (Rd.below Xl.out hb)
  replace Xn := Asd.mk (Rd.below Xn.out hb)
  replace Xr := Asd.mk (Rd.below Xr.out hb)
  clear B5
  have Xk := Asd.mk (hR w.heap.size)
  have Mk := Asd.mk hM
  have Gk := Asd.mk hG
  have Nk := Asd.mk hn
  clear hb hR hM hG hn
  go_wp2_with fail
  refine (UnionG (base := w.heap.size) Xn.out Xr.out Gn.out Gr.out (by omega) B6.out.size).mono ?_
  rintro e w7 ⟨Ao, no, co, lo, rfl, hb, hR, hM, hG, hn⟩
  have B7 := Asd.mk (B6.out.trans (hb.mono B6.out.size))
  replace Xa := Asd.mk (Rd.below Xa.out hb)
  replace Xl := Asd.mk (Rd.below Xl.out hb)
  replace Xn := Asd.mk (Rd.below Xn.out hb)
  replace Xr := Asd.mk (Rd.below Xr.out hb)
  replace Xk := Asd.mk (Rd.below Xk.out hb)
  clear B6
  have Xo := Asd.mk (hR w.heap.size)
  have Mo := Asd.mk hM
  have Go := Asd.mk hG
  have No := Asd.mk hn
  clear hb hR hM hG hn
  go_wp2_with fail
  refine (MeetG (base := w.heap.size) Xn.out Xr.out Gn.out Gr.out (by omega) B7.out.size).mono ?_
  rintro e w8 ⟨Az, nz, cz, lz, rfl, hb, hR, hM, hG, hn⟩
  have B8 := Asd.mk (B7.out.trans (hb.mono B7.out.size))
  replace Xa := Asd.mk (Rd.below Xa.out hb)
  replace Xl := Asd.mk (Rd.below Xl.out hb)
  replace Xn := Asd.mk (Rd.below Xn.out hb)
  replace Xr := Asd.mk (Rd.below Xr.out hb)
  replace Xk := Asd.mk (Rd.below Xk.out hb)
  replace Xo := Asd.mk (Rd.below Xo.out hb)
  clear B7
  have Xz := Asd.mk (hR w.heap.size)
  have Mz := Asd.mk hM
  have Gz := Asd.mk hG
  have Nz := Asd.mk hn
  clear hb hR hM hG hn
  obtain rfl := Mz.out.nil (fun k => by rw [Mn.out.sem, Mr.out.sem, inL_all, inL_nil]; unfold andB orB notB; cases inL la k <;> rfl)
  obtain rfl := Nz.out
  go_wp2_with fail
  have hq := Mk.out.eq Mn.out (fun k => by rw [Mr.out.sem, inL_all, inL_nil]; unfold orB notB; cases inL la k <;> rfl)
  refine (SameSpans_calls (base := w.heap.size) Xk.out Xn.out (by have := Nk.out; have := Gk.out.1; omega)).mono ?_
  rw [decide_eq_true hq]
  clear hq
  rintro e w9 ⟨rfl, q, hq⟩
  have hb : Below w8.heap.size w8 w9 := hq ▸ below_dn _ _
  have B9 := Asd.mk (B8.out.trans (hb.mono B8.out.size))
  replace Xa := Asd.mk (Rd.below Xa.out hb)
  replace Xl := Asd.mk (Rd.below Xl.out hb)
  replace Xn := Asd.mk (Rd.below Xn.out hb)
  replace Xr := Asd.mk (Rd.below Xr.out hb)
  replace Xk := Asd.mk (Rd.below Xk.out hb)
  replace Xo := Asd.mk (Rd.below Xo.out hb)
  replace Xz := Asd.mk (Rd.below Xz.out hb)
  clear B8
  clear hb hq
  go_wp2_with fail
  have hq := nrm_uniq _ _ Mo.out.nrm xAll_nrm (fun k => by rw [Mo.out.sem, Mn.out.sem, Mr.out.sem, inL_all, inL_nil]; unfold orB notB; cases inL la k <;> rfl)
  refine (SameSpans_calls (base := w.heap.size) Xo.out Xl.out (by have := No.out; have := Go.out.1; omega)).mono ?_
  rw [decide_eq_true hq]
  clear hq
  rintro e w10 ⟨rfl, q, hq⟩
  have hb : Below w9.heap.size w9 w10 := hq ▸ below_dn _ _
  have B10 := Asd.mk (B9.out.trans (hb.mono B9.out.size))
  replace Xa := Asd.mk (Rd.below Xa.out hb)
  replace Xl := Asd.mk (Rd.below Xl.out hb)
  replace Xn := Asd.mk (Rd.below Xn.out hb)
  replace Xr := Asd.mk (Rd.below Xr.out hb)
  replace Xk := Asd.mk (Rd.below Xk.out hb)
  replace Xo := Asd.mk (Rd.below Xo.out hb)
  replace Xz := Asd.mk (Rd.below Xz.out hb)
  clear B9
  clear hb hq
  go_wp2_with fail
  go_ret
  exact ⟨rfl, B10.out⟩
end Go.Proofs.Ytkjopeiohjkhoaa

/- Span: the examples, sound lists, sums of good lists. -/
import Derived.Test.YtkjopeiohjkhoaaSu
set_option linter.unusedVariables false
set_option linter.unusedSimpArgs false
namespace Go.Proofs.Ytkjopeiohjkhoaa
open Go.RowKit
theorem UnionG {base : Nat} {w : World} {A B : Option Addr} {n c m d N M : Nat} {a b : List SpanR} (ha : Rd base 35 w 2 A n c (sCells a)) (hb : Rd base 35 w 2 B m d (sCells b)) (ga : Good N a) (gb : Good M b) (hN : 2 * (N + M) ≤ 4096) (hbs : base ≤ w.heap.size) :
    Calls Try.prog 15 #[.slice A n c, .slice B m d] w (SumPost orB (2 * (N + M)) w a b) :=
  (Union_calls ha hb hbs).mono fun e w' h => h.sum ga gb hN
theorem MeetG {base : Nat} {w : World} {A B : Option Addr} {n c m d N M : Nat} {a b : List SpanR} (ha : Rd base 35 w 2 A n c (sCells a)) (hb : Rd base 35 w 2 B m d (sCells b)) (ga : Good N a) (gb : Good M b) (hN : 2 * (N + M) ≤ 4096) (hbs : base ≤ w.heap.size) :
    Calls Try.prog 16 #[.slice A n c, .slice B m d] w (SumPost andB (2 * (N + M)) w a b) :=
  (Meet_calls ha hb hbs).mono fun e w' h => h.sum ga gb hN
theorem MinusG {base : Nat} {w : World} {A B : Option Addr} {n c m d N M : Nat} {a b : List SpanR} (ha : Rd base 35 w 2 A n c (sCells a)) (hb : Rd base 35 w 2 B m d (sCells b)) (ga : Good N a) (gb : Good M b) (hN : 2 * (N + M) ≤ 4096) (hbs : base ≤ w.heap.size) :
    Calls Try.prog 17 #[.slice A n c, .slice B m d] w (SumPost notB (2 * (N + M)) w a b) :=
  (Minus_calls ha hb hbs).mono fun e w' h => h.sum ga gb hN
theorem NormalG {base : Nat} {w : World} {A : Option Addr} {n c N : Nat} {a : List SpanR} (ha : Rd base 35 w 2 A n c (sCells a)) (ga : Good N a) (hN : 2 * (N + 0) ≤ 4096) (hbs : base ≤ w.heap.size) :
    Calls Try.prog 12 #[.slice A n c] w (SumPost orB (2 * (N + 0)) w a []) :=
  (Normal_calls ha hbs).mono fun e w' h => h.sum ga (Good.nil 0) hN
theorem Made.eq {rf rf' : Bool → Bool → Bool} {a b a' b' o o' : List SpanR} (h : Made rf a b o) (h' : Made rf' a' b' o') (he : ∀ k, rf (inL a k) (inL b k) = rf' (inL a' k) (inL b' k)) : o = o' :=
  nrm_uniq _ _ h.nrm h'.nrm fun k => by rw [h.sem, h'.sem]; exact he k
theorem Made.nil {rf : Bool → Bool → Bool} {a b o : List SpanR} (h : Made rf a b o) (he : ∀ k, rf (inL a k) (inL b k) = false) : o = [] :=
  nrm_uniq _ _ h.nrm trivial fun k => by rw [h.sem]; exact he k
theorem klt_nil (k : ByteArray) : ¬ klt k ⟨#[]⟩ := List.not_lt_nil _
theorem inL_nil (k : ByteArray) : inL [] k = false := rfl

set_option maxHeartbeats 8000000 in
set_option maxRecDepth 100000 in
theorem works_calls (w : World) :
    Calls Try.prog 10 #[] w fun e w' => e = .returned (.bool true) ∧ Below w.heap.size w w' := by
  go_enter Try.func10, Try.ntmps10
  go_wp2_with fail
  have hb : Below w.heap.size w (w.alloc (.cells #[.string ⟨#[98]⟩, .string ⟨#[100]⟩, .string ⟨#[97]⟩, .string ⟨#[98]⟩, .string ⟨#[101]⟩, .string ⟨#[]⟩] 35)) := (Below.refl _ _).alloc (Nat.le_refl _) _
  have B1 := Asd.mk hb
  have Xa : Asd (Rd w.heap.size 35 (w.alloc (.cells #[.string ⟨#[98]⟩, .string ⟨#[100]⟩, .string ⟨#[97]⟩, .string ⟨#[98]⟩, .string ⟨#[101]⟩, .string ⟨#[]⟩] 35)) 2 (some ⟨w.heap.size, 0, none⟩) 3 3 (sCells xA)) := ⟨Rd.new_ rfl rfl⟩
  clear hb
  generalize (w.alloc (.cells #[.string ⟨#[98]⟩, .string ⟨#[100]⟩, .string ⟨#[97]⟩, .string ⟨#[98]⟩, .string ⟨#[101]⟩, .string ⟨#[]⟩] 35)) = w1 at B1  Xa ⊢
  have Ga := Asd.mk x_good.1
  go_wp2_with fail
  refine (NormalG (base := w.heap.size) Xa.out Ga.out (by omega) B1.out.size).mono ?_
  rintro e w2 ⟨An, nn, cn, ln, rfl, hb, hR, hM, hG, hn⟩
  have B2 := Asd.mk (B1.out.trans (hb.mono B1.out.size))
  replace Xa := Asd.mk (Rd.below Xa.out hb)
  clear B1
  have Xn := Asd.mk (hR w.heap.size)
  have Mn := Asd.mk hM
  have Gn := Asd.mk hG
  have Nn := Asd.mk hn
  clear hb hR hM hG hn
  obtain rfl := x_norm Mn.out
  obtain rfl := Nn.out
  go_wp2_with fail
  have hb1 : Below w2.heap.size w2 (w2.alloc (.cells #[.string ⟨#[97]⟩, .string ⟨#[]⟩] 35)) := (Below.refl _ _).alloc (Nat.le_refl _) _
  have hb2 : Below (w2.alloc (.cells #[.string ⟨#[97]⟩, .string ⟨#[]⟩] 35)).heap.size (w2.alloc (.cells #[.string ⟨#[97]⟩, .string ⟨#[]⟩] 35)) ((w2.alloc (.cells #[.string ⟨#[97]⟩, .string ⟨#[]⟩] 35)).alloc (.cells #[.string ⟨#[98]⟩, .string ⟨#[99]⟩] 35)) := (Below.refl _ _).alloc (Nat.le_refl _) _
  have hb := hb1.trans (hb2.mono hb1.size)
  have B3 := Asd.mk (B2.out.trans (hb.mono B2.out.size))
  replace Xa := Asd.mk (Rd.below Xa.out hb)
  replace Xn := Asd.mk (Rd.below Xn.out hb)
  clear B2
  have Xb : Asd (Rd w.heap.size 35 ((w2.alloc (.cells #[.string ⟨#[97]⟩, .string ⟨#[]⟩] 35)).alloc (.cells #[.string ⟨#[98]⟩, .string ⟨#[99]⟩] 35)) 2 (some ⟨w2.heap.size, 0, none⟩) 1 1 (sCells xB)) := ⟨(Rd.new_ rfl rfl).below hb2⟩
  have Xc : Asd (Rd w.heap.size 35 ((w2.alloc (.cells #[.string ⟨#[97]⟩, .string ⟨#[]⟩] 35)).alloc (.cells #[.string ⟨#[98]⟩, .string ⟨#[99]⟩] 35)) 2 (some ⟨w2.heap.size + 1, 0, none⟩) 1 1 (sCells xC)) := ⟨Rd.new2 (by simp) rfl rfl⟩
  clear hb hb1 hb2
  generalize w2.heap.size = zb at Xb Xc ⊢
  generalize ((w2.alloc (.cells #[.string ⟨#[97]⟩, .string ⟨#[]⟩] 35)).alloc (.cells #[.string ⟨#[98]⟩, .string ⟨#[99]⟩] 35)) = w3 at B3 Xa Xn Xb Xc ⊢
  have Gb := Asd.mk x_good.2.1
  have Gc := Asd.mk x_good.2.2
  go_wp2_with fail
  refine (MinusG (base := w.heap.size) Xb.out Xc.out Gb.out Gc.out (by omega) B3.out.size).mono ?_
  rintro e w4 ⟨Ad, nd, cd, ld, rfl, hb, hR, hM, hG, hn⟩
  have B4 := Asd.mk (B3.out.trans (hb.mono B3.out.size))
  replace Xa := Asd.mk (Rd.below Xa.out hb)
  replace Xn := Asd.mk (Rd.below Xn.out hb)
  replace Xb := Asd.mk (Rd.below Xb.out hb)
  replace Xc := Asd.mk (Rd.below Xc.out hb)
  clear B3
  have Xd := Asd.mk (hR w.heap.size)
  have Md := Asd.mk hM
  have Gd := Asd.mk hG
  have Nd := Asd.mk hn
  clear hb hR hM hG hn
  obtain rfl := x_minus Md.out
  obtain rfl := Nd.out
  go_wp2_with fail
  have hb : Below w4.heap.size w4 (w4.alloc (.cells #[.string ⟨#[97]⟩, .string ⟨#[100]⟩, .string ⟨#[101]⟩, .string ⟨#[]⟩] 35)) := (Below.refl _ _).alloc (Nat.le_refl _) _
  have B5 := Asd.mk (B4.out.trans (hb.mono B4.out.size))
  replace Xa := Asd.mk (Rd.below Xa.out hb)
  replace Xn := Asd.mk (Rd.below Xn.out hb)
  replace Xb := Asd.mk (Rd.below Xb.out hb)
  replace Xc := Asd.mk (Rd.below Xc.out hb)
  replace Xd := Asd.mk (Rd.below Xd.out hb)
  clear B4
  have Xe : Asd (Rd w.heap.size 35 (w4.alloc (.cells #[.string ⟨#[97]⟩, .string ⟨#[100]⟩, .string ⟨#[101]⟩, .string ⟨#[]⟩] 35)) 2 (some ⟨w4.heap.size, 0, none⟩) 2 2 (sCells xN)) := ⟨Rd.new_ rfl rfl⟩
  clear hb
  generalize w4.heap.size = ze at Xe ⊢
  generalize (w4.alloc (.cells #[.string ⟨#[97]⟩, .string ⟨#[100]⟩, .string ⟨#[101]⟩, .string ⟨#[]⟩] 35)) = w5 at B5 Xa Xn Xb Xc Xd Xe ⊢
  go_wp2_with fail
  have hq := (rfl : xN = xN)
  refine (SameSpans_calls (base := w.heap.size) Xn.out Xe.out (by have := Nn.out; have := Gn.out.1; omega)).mono ?_
  rw [decide_eq_true hq]
  clear hq
  rintro e w6 ⟨rfl, q, hq⟩
  have hb : Below w5.heap.size w5 w6 := hq ▸ below_dn _ _
  have B6 := Asd.mk (B5.out.trans (hb.mono B5.out.size))
  replace Xa := Asd.mk (Rd.below Xa.out hb)
  replace Xn := Asd.mk (Rd.below Xn.out hb)
  replace Xb := Asd.mk (Rd.below Xb.out hb)
  replace Xc := Asd.mk (Rd.below Xc.out hb)
  replace Xd := Asd.mk (Rd.below Xd.out hb)
  replace Xe := Asd.mk (Rd.below Xe.out hb)
  clear B5
  clear hb hq
  go_wp2_with fail
  have hb : Below w6.heap.size w6 (w6.alloc (.cells #[.string ⟨#[97]⟩, .string ⟨#[98]⟩, .string ⟨#[99]⟩, .string ⟨#[]⟩] 35)) := (Below.refl _ _).alloc (Nat.le_refl _) _
  have B7 := Asd.mk (B6.out.trans (hb.mono B6.out.size))
  replace Xa := Asd.mk (Rd.below Xa.out hb)
  replace Xn := Asd.mk (Rd.below Xn.out hb)
  replace Xb := Asd.mk (Rd.below Xb.out hb)
  replace Xc := Asd.mk (Rd.below Xc.out hb)
  replace Xd := Asd.mk (Rd.below Xd.out hb)
  replace Xe := Asd.mk (Rd.below Xe.out hb)
  clear B6
  have Xf : Asd (Rd w.heap.size 35 (w6.alloc (.cells #[.string ⟨#[97]⟩, .string ⟨#[98]⟩, .string ⟨#[99]⟩, .string ⟨#[]⟩] 35)) 2 (some ⟨w6.heap.size, 0, none⟩) 2 2 (sCells xD)) := ⟨Rd.new_ rfl rfl⟩
  clear hb
  generalize w6.heap.size = zf at Xf ⊢
  generalize (w6.alloc (.cells #[.string ⟨#[97]⟩, .string ⟨#[98]⟩, .string ⟨#[99]⟩, .string ⟨#[]⟩] 35)) = w7 at B7 Xa Xn Xb Xc Xd Xe Xf ⊢
  go_wp2_with fail
  have hq := (rfl : xD = xD)
  refine (SameSpans_calls (base := w.heap.size) Xd.out Xf.out (by have := Nd.out; have := Gd.out.1; omega)).mono ?_
  rw [decide_eq_true hq]
  clear hq
  rintro e w8 ⟨rfl, q, hq⟩
  have hb : Below w7.heap.size w7 w8 := hq ▸ below_dn _ _
  have B8 := Asd.mk (B7.out.trans (hb.mono B7.out.size))
  replace Xa := Asd.mk (Rd.below Xa.out hb)
  replace Xn := Asd.mk (Rd.below Xn.out hb)
  replace Xb := Asd.mk (Rd.below Xb.out hb)
  replace Xc := Asd.mk (Rd.below Xc.out hb)
  replace Xd := Asd.mk (Rd.below Xd.out hb)
  replace Xe := Asd.mk (Rd.below Xe.out hb)
  replace Xf := Asd.mk (Rd.below Xf.out hb)
  clear B7
  clear hb hq
  go_wp2_with fail
  go_ret
  exact ⟨rfl, B8.out⟩

def soundP (l : List SpanR) : Bool := decide (l.length ≤ 60) && l.all spOk
theorem soundP_good {l : List SpanR} (h : soundP l = true) : Good 60 l := by
  unfold soundP at h
  rw [Bool.and_eq_true, decide_eq_true_iff, List.all_eq_true] at h
  exact h
theorem take_all {l : List SpanR} {i : Nat} (hi : i < l.length) (h : (l.take i).all spOk = true) (hk : spOk l[i] = true) : (l.take (i + 1)).all spOk = true := by
  rw [List.take_succ_eq_append_getElem hi, List.all_append, h, List.all_cons, hk]; rfl
set_option maxHeartbeats 1000000 in
theorem sound_calls {base : Nat} {w : World} {A : Option Addr} {n c : Nat} {l : List SpanR} (hr : Rd base 35 w 2 A n c (sCells l)) :
    Calls Try.prog 21 #[.slice A n c] w fun e w' => e = .returned (.bool (soundP l)) ∧ Below w.heap.size w w' := by
  have hn := hr.count (enc := SpanR.enc) (fun _ => rfl) (by omega)
  by_cases hbig : (60 : Int) < (n : Int)
  · have hs : soundP l = false := by unfold soundP; rw [decide_eq_false (by omega)]; rfl
    rw [hs]
    clear hs hn hr
    go_enter Try.func21, Try.ntmps21
    go_wp2_with fail
    go_ret
    exact ⟨rfl, Below.refl _ _⟩
  · have hs : soundP l = l.all spOk := by unfold soundP; rw [decide_eq_true (by omega)]; rfl
    rw [hs]
    have R := Asd.mk hr
    have N := Asd.mk hn
    clear hs hn hr
    go_enter Try.func21, Try.ntmps21
    go_wp2_with fail
    go_loopw [9] (fun s9 wr => ∃ k : Nat, s9 = .int .i64 k ∧ k ≤ n ∧ Asd (Below w.heap.size w wr) ∧ Asd ((l.take k).all spOk = true)) (fun s9 _ => n - (intOf s9).toNat)
    case atStart => exact ⟨0, rfl, Nat.zero_le _, ⟨Below.refl _ _⟩, ⟨rfl⟩⟩
    case round =>
      obtain ⟨k, rfl, hkn, BW, I⟩ := hrel
      by_cases hlt : k < n
      · obtain ⟨b, off, rfl, hb, hl, hcs⟩ := (R.out.below BW.out).at_enc (enc := SpanR.enc) (fun _ => rfl) (by omega) hlt
        have hcap : k < c := Nat.lt_of_lt_of_le hlt R.out.cap
        have hc := SpanCheck_calls l[k] wr
        have hta := take_all hl I.out
        have hmem := List.getElem_mem hl
        generalize l[k] = y at hcs hc hta hmem
        have c0 : wr.cell? ⟨b, off + k * 2, none⟩ = some (.string y.from_) := hcs 0 _ rfl
        have c1 : wr.cell? ⟨b, off + k * 2 + 1, none⟩ = some (.string y.to_) := hcs 1 _ rfl
        unfold SpanR.enc at hc
        unfold chkP at hc
        have TA := Asd.mk hta
        have ME := Asd.mk hmem
        clear hcs hta hmem
        cases hq : spOk y with
        | true =>
          rw [hq] at hc
          have Q := Asd.mk hq
          have C : Asd (Calls Try.prog 22 #[.agg #[.string y.from_, .string y.to_]] wr fun e w' => e = .returned (.int .i64 0) ∧ Below wr.heap.size wr w') := ⟨hc⟩
          clear hq hc
          go_wp2_with fail
          refine C.out.mono ?_
          rintro e w' ⟨rfl, hb'⟩
          go_wp2_with fail
          go_roundw
          case measure => simp [intOf]; omega
          case rel => exact ⟨k + 1, by go_num, by omega, ⟨BW.out.trans (hb'.mono BW.out.size)⟩, ⟨TA.out Q.out⟩⟩
        | false =>
          rw [hq] at hc
          have Q := Asd.mk hq
          have C : Asd (Calls Try.prog 22 #[.agg #[.string y.from_, .string y.to_]] wr fun e w' => e = .returned (.int .i64 50) ∧ Below wr.heap.size wr w') := ⟨hc⟩
          clear hq hc
          go_wp2_with fail
          refine C.out.mono ?_
          rintro e w' ⟨rfl, hb'⟩
          go_wp2_with fail
          go_ret
          refine ⟨?_, BW.out.trans (hb'.mono BW.out.size)⟩
          rw [show l.all spOk = false from List.all_eq_false.2 ⟨y, ME.out, by rw [Q.out]; decide⟩]
          rfl
      · have hall : l.all spOk = true := by
          have h := I.out
          rwa [List.take_of_length_le (by have := N.out; omega)] at h
        have HALL := Asd.mk hall
        clear hall
        go_wp2_with fail
        go_ret
        exact ⟨by rw [HALL.out]; rfl, BW.out⟩
end Go.Proofs.Ytkjopeiohjkhoaa

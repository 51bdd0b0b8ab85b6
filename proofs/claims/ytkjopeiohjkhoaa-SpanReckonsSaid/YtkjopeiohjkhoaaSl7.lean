/- SpanReckons, the walk. -/
import Derived.Test.YtkjopeiohjkhoaaSr7
import Derived.Deep.DeepCutAuto
set_option linter.unusedVariables false
set_option linter.unusedSimpArgs false
namespace Go.Proofs.Ytkjopeiohjkhoaa
open Go.RowKit
theorem own_capmax {w : World} {b e k n c : Nat} {A : Option Addr} {xs : List Value} (h : w.ownsRow b e k (.slice A n c) n xs) : c ≤ 9223372036854775807 := by
  rcases h.2 with ⟨h1, _⟩ | ⟨g, cap, cur, hv, _, _, _, h2, _⟩
  · injection h1 with _ _ h1
    omega
  · injection hv with _ _ hv
    subst hv
    unfold maxLen at h2
    omega
set_option maxHeartbeats 16000000 in
set_option maxRecDepth 100000 in
theorem SpanReckons_walk {w : World} {A B : Option Addr} {n c m d : Nat} {a b : List SpanR} (ha : Rd w.heap.size 35 w 2 A n c (sCells a)) (hb : Rd w.heap.size 35 w 2 B m d (sCells b)) (hn : n * 32 ≤ 140737488351232) (hm : m * 32 ≤ 140737488351232) :
    Calls Try.prog 3 #[.slice A n c, .slice B m d] w fun e w' => e = .returned (.bool true) ∧ Below w.heap.size w w' := by
  have RA := Asd.mk ha
  have RB := Asd.mk hb
  have SZ1 := Asd.mk hn
  have SZ2 := Asd.mk hm
  have hn1 : n ≤ 4398046511103 := by omega
  have hm1 : m ≤ 4398046511103 := by omega
  clear ha hb hn hm
  go_enter Try.func3, Try.ntmps3
  go_upto_region 1 with fail
  go_cut [34] (fun s34 wx => ∃ g : Bool, s34 = .bool g ∧ Asd (w = wx))
  case first =>
    by_cases h1 : (60 : Int) < (n : Int) <;> by_cases h2 : (n : Int) ≤ 4096 <;> by_cases h3 : (60 : Int) < (m : Int) <;> by_cases h4 : (m : Int) ≤ 4096 <;>
      (go_wp2_with fail
       go_meet
       exact ⟨_, rfl, ⟨rfl⟩⟩)
  case rest =>
    obtain ⟨g, rfl, hw⟩ := hcut
    obtain rfl := hw.out
    cases g
    case true =>
      go_wp2_with fail
      refine (works_calls _).mono ?_
      rintro e w1 ⟨rfl, hb1⟩
      have B1 := Asd.mk hb1
      clear hb1
      go_wp2_with fail
      go_ret
      exact ⟨rfl, B1.out⟩
    case false =>
      go_wp2_with fail
      refine (LendSpans_calls RA.out SZ1.out (Nat.le_refl _)).mono ?_
      rintro e w1 ⟨Px, cx, rfl, hb1, hX⟩
      have B1 := Asd.mk hb1
      have X1 := Asd.mk hX
      clear hb1 hX
      go_wp2_with fail
      refine (LendSpans_calls (RB.out.below B1.out) SZ2.out B1.out.size).mono ?_
      rintro e w2 ⟨Py, cy, rfl, hb2, hY⟩
      have B2 := Asd.mk (B1.out.trans (hb2.mono B1.out.size))
      have X2 := Asd.mk (Rd.below X1.out hb2)
      have Y2 := Asd.mk hY
      clear hb2 hY B1 X1
      go_wp2_with fail
      refine (Normal_calls (lent_list X2.out).2 B2.out.size).mono ?_
      rintro e w3 ⟨R, nr, cr, l, err, rfl, hb3, hO, hr⟩
      have B3 := Asd.mk (B2.out.trans (hb3.mono B2.out.size))
      have X3 := Asd.mk (Rd.below X2.out hb3)
      have Y3 := Asd.mk (Rd.below Y2.out hb3)
      obtain ⟨R1, c1, e1, hR⟩ := Rd.of_own (base := w.heap.size) hO
      cases e1
      have RR := Asd.mk hR
      have HR := Asd.mk hr
      clear hb3 hR hr B2 X2 Y2
      have hnl := own_slen hO
      clear hO
      go_wp2_with fail
      refine (RefNormal_calls (RA.out.below B3.out) B3.out.size).mono ?_
      rintro e w4 ⟨R', nr', cr', l', err', rfl, hb4, hO', hr'⟩
      obtain ⟨hll, hee, hlen⟩ := SwPost.same HR.out hr'
      subst hll hee
      have B4 := Asd.mk (B3.out.trans (hb4.mono B3.out.size))
      have X4 := Asd.mk (Rd.below X3.out hb4)
      have Y4 := Asd.mk (Rd.below Y3.out hb4)
      obtain ⟨R1', c1', e1', hR'⟩ := Rd.of_own (base := w.heap.size) hO'
      cases e1'
      have hnr : nr ≤ 4096 := by omega
      have SS := Asd.mk (SameSpans_calls (RR.out.below hb4) hR' (by omega))
      rw [decide_eq_true rfl] at SS
      clear hr' HR hb4 hO' hR' hlen hnl RR B3 X3 Y3
      go_wp2_with fail
      refine SS.out.mono ?_
      rintro e w5 ⟨rfl, q, hq⟩
      have hb5 : Below w4.heap.size w4 w5 := hq ▸ below_dn _ _
      have B5 := Asd.mk (B4.out.trans (hb5.mono B4.out.size))
      have X5 := Asd.mk (Rd.below X4.out hb5)
      have Y5 := Asd.mk (Rd.below Y4.out hb5)
      clear hq hb5 SS B4 X4 Y4
      go_wp2_with fail
      go_loopw [11] (fun s11 wr => ∃ i : Nat, s11 = .int .i64 i ∧ i ≤ 3 ∧ Asd (Below w.heap.size w wr) ∧ Asd (Rd w.heap.size 35 wr 2 Px (n + 1) cx (sCells (a ++ [markS]))) ∧ Asd (Rd w.heap.size 35 wr 2 Py (m + 1) cy (sCells (b ++ [markS])))) (fun s11 _ => 3 - (intOf s11).toNat)
      case atStart => exact ⟨0, rfl, by omega, B5, X5, Y5⟩
      case round =>
        clear B5 X5 Y5
        obtain ⟨i, rfl, hi, BW, XX, YY⟩ := hrel
        by_cases hlt : i < 3
        · have h012 : i = 0 ∨ i = 1 ∨ i = 2 := by omega
          clear hlt hi
          rcases h012 with rfl | rfl | rfl
          · have UN : Asd (∀ W : World, Below w.heap.size w W → Rd w.heap.size 35 W 2 Px (n + 1) cx (sCells (a ++ [markS])) → Rd w.heap.size 35 W 2 Py (m + 1) cy (sCells (b ++ [markS])) → Calls Try.prog 15 #[.slice Px n cx, .slice Py m cy] W (SwPost (rfHow 0) W a b)) := ⟨fun W hW h1 h2 => Union_calls (lent_list h1).2 (lent_list h2).2 hW.size⟩
            go_wp2_with fail
            have hal : Below wr.heap.size wr (wr.alloc (.cells #[.func (.func 15) #[] #[], .func (.func 16) #[] #[], .func (.func 17) #[] #[]] 29)) := (Below.refl _ _).alloc (Nat.le_refl _) _
            have B0 := Asd.mk (BW.out.trans (hal.mono BW.out.size))
            have X0 := Asd.mk (XX.out.below hal)
            have Y0 := Asd.mk (YY.out.below hal)
            have BS0 := Asd.mk B0.out.size
            clear hal BW XX YY
            generalize (wr.alloc (.cells #[.func (.func 15) #[] #[], .func (.func 16) #[] #[], .func (.func 17) #[] #[]] 29)) = w0 at *
            refine (UN.out _ B0.out X0.out Y0.out).mono ?_
            rintro e w2 ⟨R, nr, cr, l, err, rfl, hb2, hO, hr⟩
            have B2 := Asd.mk (B0.out.trans (hb2.mono B0.out.size))
            have D2 := Asd.mk hb2
            have O2 := Asd.mk hO
            have R2 := Asd.mk hr
            clear hb2 hO hr
            go_wp2_with fail
            refine (RefOf_calls (RA.out.below B2.out) (RB.out.below B2.out) B2.out.size 0 (by omega)).mono ?_
            rintro e w3 ⟨R', nr', cr', l', err', rfl, hb3, hO', hr'⟩
            obtain ⟨hll, hee, hlen⟩ := SwPost.same R2.out hr'
            subst hll hee
            have B3 := Asd.mk (B2.out.trans (hb3.mono B2.out.size))
            have D3 := Asd.mk (D2.out.trans (hb3.mono D2.out.size))
            have O3 := Asd.mk (O2.out.kept (gb_below hb3 none) (by cases (Value.slice R nr cr).ownBlock <;> simp))
            obtain ⟨R1, c1, e1, hR⟩ := Rd.of_own (base := w.heap.size) O3.out
            cases e1
            obtain ⟨R1', c1', e1', hR'⟩ := Rd.of_own (base := w.heap.size) hO'
            cases e1'
            have hnr : nr ≤ 4096 := by have := own_slen O3.out; omega
            have SS := Asd.mk (SameSpans_calls hR hR' (by omega))
            rw [decide_eq_true rfl] at SS
            clear hr' R2 hb3 hO' hR hR' hlen O2 B2 D2 B0
            go_wp2_with fail
            refine SS.out.mono ?_
            rintro e w4 ⟨rfl, q, hq⟩
            have hb4 : Below w3.heap.size w3 w4 := hq ▸ below_dn _ _
            have B4 := Asd.mk (B3.out.trans (hb4.mono B3.out.size))
            have D4 := Asd.mk (D3.out.trans (hb4.mono D3.out.size))
            have O4 := Asd.mk (O3.out.kept (gb_below hb4 none) (by cases (Value.slice R nr cr).ownBlock <;> simp))
            clear hq hb4 B3 D3 O3 SS
            go_wp2_with fail
            refine (SpoilSpans_calls O4.out (own_capmax O4.out)).mono ?_
            rintro e w5 ⟨rfl, hb5⟩
            have D5 := Asd.mk (D4.out.trans hb5)
            have B5 : Asd (Below w.heap.size w w5) := ⟨B4.out.trans (hb5.mono BS0.out)⟩
            have X5 := Asd.mk (X0.out.below D5.out)
            have Y5 := Asd.mk (Y0.out.below D5.out)
            clear hb5 D4 B4 O4
            go_wp2_with fail
            go_roundw
            case measure => simp [intOf]
            case rel => exact ⟨0 + 1, by go_num, by omega, B5, X5, Y5⟩
          · have UN : Asd (∀ W : World, Below w.heap.size w W → Rd w.heap.size 35 W 2 Px (n + 1) cx (sCells (a ++ [markS])) → Rd w.heap.size 35 W 2 Py (m + 1) cy (sCells (b ++ [markS])) → Calls Try.prog 16 #[.slice Px n cx, .slice Py m cy] W (SwPost (rfHow 1) W a b)) := ⟨fun W hW h1 h2 => Meet_calls (lent_list h1).2 (lent_list h2).2 hW.size⟩
            go_wp2_with fail
            have hal : Below wr.heap.size wr (wr.alloc (.cells #[.func (.func 15) #[] #[], .func (.func 16) #[] #[], .func (.func 17) #[] #[]] 29)) := (Below.refl _ _).alloc (Nat.le_refl _) _
            have B0 := Asd.mk (BW.out.trans (hal.mono BW.out.size))
            have X0 := Asd.mk (XX.out.below hal)
            have Y0 := Asd.mk (YY.out.below hal)
            have BS0 := Asd.mk B0.out.size
            clear hal BW XX YY
            generalize (wr.alloc (.cells #[.func (.func 15) #[] #[], .func (.func 16) #[] #[], .func (.func 17) #[] #[]] 29)) = w0 at *
            refine (UN.out _ B0.out X0.out Y0.out).mono ?_
            rintro e w2 ⟨R, nr, cr, l, err, rfl, hb2, hO, hr⟩
            have B2 := Asd.mk (B0.out.trans (hb2.mono B0.out.size))
            have D2 := Asd.mk hb2
            have O2 := Asd.mk hO
            have R2 := Asd.mk hr
            clear hb2 hO hr
            go_wp2_with fail
            refine (RefOf_calls (RA.out.below B2.out) (RB.out.below B2.out) B2.out.size 1 (by omega)).mono ?_
            rintro e w3 ⟨R', nr', cr', l', err', rfl, hb3, hO', hr'⟩
            obtain ⟨hll, hee, hlen⟩ := SwPost.same R2.out hr'
            subst hll hee
            have B3 := Asd.mk (B2.out.trans (hb3.mono B2.out.size))
            have D3 := Asd.mk (D2.out.trans (hb3.mono D2.out.size))
            have O3 := Asd.mk (O2.out.kept (gb_below hb3 none) (by cases (Value.slice R nr cr).ownBlock <;> simp))
            obtain ⟨R1, c1, e1, hR⟩ := Rd.of_own (base := w.heap.size) O3.out
            cases e1
            obtain ⟨R1', c1', e1', hR'⟩ := Rd.of_own (base := w.heap.size) hO'
            cases e1'
            have hnr : nr ≤ 4096 := by have := own_slen O3.out; omega
            have SS := Asd.mk (SameSpans_calls hR hR' (by omega))
            rw [decide_eq_true rfl] at SS
            clear hr' R2 hb3 hO' hR hR' hlen O2 B2 D2 B0
            go_wp2_with fail
            refine SS.out.mono ?_
            rintro e w4 ⟨rfl, q, hq⟩
            have hb4 : Below w3.heap.size w3 w4 := hq ▸ below_dn _ _
            have B4 := Asd.mk (B3.out.trans (hb4.mono B3.out.size))
            have D4 := Asd.mk (D3.out.trans (hb4.mono D3.out.size))
            have O4 := Asd.mk (O3.out.kept (gb_below hb4 none) (by cases (Value.slice R nr cr).ownBlock <;> simp))
            clear hq hb4 B3 D3 O3 SS
            go_wp2_with fail
            refine (SpoilSpans_calls O4.out (own_capmax O4.out)).mono ?_
            rintro e w5 ⟨rfl, hb5⟩
            have D5 := Asd.mk (D4.out.trans hb5)
            have B5 : Asd (Below w.heap.size w w5) := ⟨B4.out.trans (hb5.mono BS0.out)⟩
            have X5 := Asd.mk (X0.out.below D5.out)
            have Y5 := Asd.mk (Y0.out.below D5.out)
            clear hb5 D4 B4 O4
            go_wp2_with fail
            go_roundw
            case measure => simp [intOf]
            case rel => exact ⟨1 + 1, by go_num, by omega, B5, X5, Y5⟩
          · have UN : Asd (∀ W : World, Below w.heap.size w W → Rd w.heap.size 35 W 2 Px (n + 1) cx (sCells (a ++ [markS])) → Rd w.heap.size 35 W 2 Py (m + 1) cy (sCells (b ++ [markS])) → Calls Try.prog 17 #[.slice Px n cx, .slice Py m cy] W (SwPost (rfHow 2) W a b)) := ⟨fun W hW h1 h2 => Minus_calls (lent_list h1).2 (lent_list h2).2 hW.size⟩
            go_wp2_with fail
            have hal : Below wr.heap.size wr (wr.alloc (.cells #[.func (.func 15) #[] #[], .func (.func 16) #[] #[], .func (.func 17) #[] #[]] 29)) := (Below.refl _ _).alloc (Nat.le_refl _) _
            have B0 := Asd.mk (BW.out.trans (hal.mono BW.out.size))
            have X0 := Asd.mk (XX.out.below hal)
            have Y0 := Asd.mk (YY.out.below hal)
            have BS0 := Asd.mk B0.out.size
            clear hal BW XX YY
            generalize (wr.alloc (.cells #[.func (.func 15) #[] #[], .func (.func 16) #[] #[], .func (.func 17) #[] #[]] 29)) = w0 at *
            refine (UN.out _ B0.out X0.out Y0.out).mono ?_
            rintro e w2 ⟨R, nr, cr, l, err, rfl, hb2, hO, hr⟩
            have B2 := Asd.mk (B0.out.trans (hb2.mono B0.out.size))
            have D2 := Asd.mk hb2
            have O2 := Asd.mk hO
            have R2 := Asd.mk hr
            clear hb2 hO hr
            go_wp2_with fail
            refine (RefOf_calls (RA.out.below B2.out) (RB.out.below B2.out) B2.out.size 2 (by omega)).mono ?_
            rintro e w3 ⟨R', nr', cr', l', err', rfl, hb3, hO', hr'⟩
            obtain ⟨hll, hee, hlen⟩ := SwPost.same R2.out hr'
            subst hll hee
            have B3 := Asd.mk (B2.out.trans (hb3.mono B2.out.size))
            have D3 := Asd.mk (D2.out.trans (hb3.mono D2.out.size))
            have O3 := Asd.mk (O2.out.kept (gb_below hb3 none) (by cases (Value.slice R nr cr).ownBlock <;> simp))
            obtain ⟨R1, c1, e1, hR⟩ := Rd.of_own (base := w.heap.size) O3.out
            cases e1
            obtain ⟨R1', c1', e1', hR'⟩ := Rd.of_own (base := w.heap.size) hO'
            cases e1'
            have hnr : nr ≤ 4096 := by have := own_slen O3.out; omega
            have SS := Asd.mk (SameSpans_calls hR hR' (by omega))
            rw [decide_eq_true rfl] at SS
            clear hr' R2 hb3 hO' hR hR' hlen O2 B2 D2 B0
            go_wp2_with fail
            refine SS.out.mono ?_
            rintro e w4 ⟨rfl, q, hq⟩
            have hb4 : Below w3.heap.size w3 w4 := hq ▸ below_dn _ _
            have B4 := Asd.mk (B3.out.trans (hb4.mono B3.out.size))
            have D4 := Asd.mk (D3.out.trans (hb4.mono D3.out.size))
            have O4 := Asd.mk (O3.out.kept (gb_below hb4 none) (by cases (Value.slice R nr cr).ownBlock <;> simp))
            clear hq hb4 B3 D3 O3 SS
            go_wp2_with fail
            refine (SpoilSpans_calls O4.out (own_capmax O4.out)).mono ?_
            rintro e w5 ⟨rfl, hb5⟩
            have D5 := Asd.mk (D4.out.trans hb5)
            have B5 : Asd (Below w.heap.size w w5) := ⟨B4.out.trans (hb5.mono BS0.out)⟩
            have X5 := Asd.mk (X0.out.below D5.out)
            have Y5 := Asd.mk (Y0.out.below D5.out)
            clear hb5 D4 B4 O4
            go_wp2_with fail
            go_roundw
            case measure => simp [intOf]
            case rel => exact ⟨2 + 1, by go_num, by omega, B5, X5, Y5⟩
        · go_wp2_with fail
          refine (KeptSpans_calls XX.out (RA.out.below BW.out) hn1).mono ?_
          rintro e w6 ⟨rfl, q, hq⟩
          have hb6 : Below wr.heap.size wr w6 := hq ▸ below_dn _ _
          have B6 := Asd.mk (BW.out.trans (hb6.mono BW.out.size))
          have Y6 := Asd.mk (Rd.below YY.out hb6)
          clear hq hb6
          go_wp2_with fail
          refine (KeptSpans_calls Y6.out (RB.out.below B6.out) hm1).mono ?_
          rintro e w7 ⟨rfl, q, hq⟩
          have hb7 : Below w6.heap.size w6 w7 := hq ▸ below_dn _ _
          have B7 := Asd.mk (B6.out.trans (hb7.mono B6.out.size))
          clear hq hb7
          go_wp2_with fail
          refine (works_calls _).mono ?_
          rintro e w8 ⟨rfl, hb8⟩
          have B8 := Asd.mk (B7.out.trans (hb8.mono B7.out.size))
          clear hb8
          go_wp2_with fail
          go_ret
          exact ⟨rfl, B8.out⟩
end Go.Proofs.Ytkjopeiohjkhoaa

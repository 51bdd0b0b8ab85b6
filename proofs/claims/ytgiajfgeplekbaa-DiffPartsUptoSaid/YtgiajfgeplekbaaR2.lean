/- DiffRepairs, the walk. -/
import Derived.Test.YtgiajfgeplekbaaR1
set_option linter.unusedVariables false
set_option linter.unusedSimpArgs false
namespace Go.Proofs.Ytgiajfgeplekbaa
open Go.RowKit

theorem Rd.own_ {base b : Nat} {T : TypeId} {w : World} {k n c : Nat} {A : Option Addr} {xs : List Value} (h : w.ownsRow b T k (.slice A n c) n xs) : Rd base T w k A n c xs := by
  obtain ⟨_, _, e, hr⟩ := Rd.of_own (base := base) h
  injection e with e1 _ e2
  subst e1 e2
  exact hr

set_option maxHeartbeats 16000000 in
set_option maxRecDepth 100000 in
theorem Repairs_walk {w : World} {A B : Option Addr} {n c m d : Nat} {a b : List Rw} (ha : Rd w.heap.size 29 w 3 A n c (rowCells a)) (hb : Rd w.heap.size 29 w 3 B m d (rowCells b)) (most : Int) :
    Calls Try.prog 9 #[.slice A n c, .slice B m d, .int .i64 most] w fun e w' => e = .returned (.bool true) ∧ Below w.heap.size w w' := by
  have hcn := ha.count (enc := Rw.enc) (fun _ => rfl) (by omega)
  have hcm := hb.count (enc := Rw.enc) (fun _ => rfl) (by omega)
  have RA := Asd.mk ha
  have RB := Asd.mk hb
  have NA := Asd.mk hcn
  have NB := Asd.mk hcm
  clear ha hb hcn hcm
  go_enter Try.func9, Try.ntmps9
  go_wp2_with fail
  refine (works_calls _).mono ?_
  rintro e w1 ⟨rfl, hb1⟩
  have B1 := Asd.mk hb1
  clear hb1
  by_cases hn : (100 : Int) < (n : Int)
  · go_wp2_with fail
    go_ret
    exact ⟨rfl, B1.out⟩
  by_cases hm : (100 : Int) < (m : Int)
  · go_wp2_with fail
    go_ret
    exact ⟨rfl, B1.out⟩
  go_wp2_with fail
  refine (Parts_calls (RB.out.below B1.out) (by omega) B1.out.size most).mono ?_
  rintro e w2 ⟨P, np, cp, rfl, hb2, hP⟩
  have B2 := Asd.mk (B1.out.trans (hb2.mono B1.out.size))
  have hRP := Rd.own_ (base := w.heap.size) hP
  clear hb2 hP
  by_cases he : perrP b most = 0
  · have hpe : wrongP b = 0 ∧ 1 ≤ most := by
      unfold perrP at he
      split at he
      · split at he
        · cases he
        · exact ⟨by assumption, by omega⟩
      · contradiction
    obtain ⟨hwb, hmo⟩ := hpe
    obtain ⟨mn, rfl⟩ : ∃ mn : Nat, most = mn := ⟨most.toNat, by omega⟩
    have hpl : partsR b (mn : Int) = partsL b mn := by unfold partsR; rw [if_pos he, Int.toNat_natCast]
    rw [hpl] at hRP
    rw [he]
    have SB := Asd.mk (wrongP_zero.1 hwb).2
    have hWA := fun l i (hi : i < (partsL b mn).length) => within_part SB.out (wrongP_ok hwb) (by omega : 1 ≤ mn) l hi
    have hIL := idx_lt b mn
    have hnp : np ≤ 101 := by
      have h1 := hRP.count (enc := SpanR.enc) (fun _ => rfl) (by omega)
      rw [partsL_len] at h1
      have h2 : partsN b mn ≤ b.length - 1 := Nat.div_le_self _ _
      have h3 := NB.out
      omega
    generalize partsL b mn = ps at hRP hWA hIL
    generalize idx b mn = f at hWA hIL
    have NP := Asd.mk (hRP.count (enc := SpanR.enc) (fun _ => rfl) (by omega))
    have WA := Asd.mk hWA
    have IL := Asd.mk hIL
    have XP := Asd.mk hRP
    have HWB := Asd.mk hwb
    clear hWA hIL hRP hpl he hmo
    go_wp2_with fail
    refine (Digests_calls (RA.out.below B2.out) XP.out (by omega) (by omega) B2.out.size).mono ?_
    rintro e w3 ⟨D1, n1, c1, rfl, hb3, hD1⟩
    have B3 := Asd.mk (B2.out.trans (hb3.mono B2.out.size))
    have XP3 := Asd.mk (XP.out.below hb3)
    have hR1 := Rd.own_ (base := w.heap.size) hD1
    clear hb3 hD1 XP
    by_cases hwa : wrongP a = 0
    · rw [hwa]
      have HWA := Asd.mk hwa
      have SA := Asd.mk (wrongP_zero.1 hwa).2
      have hd1 : digsR a ps = digsP a ps := by unfold digsR; rw [if_pos hwa]
      rw [hd1] at hR1
      have X1 := Asd.mk hR1
      clear hd1 hR1 hwa
      go_wp2_with fail
      refine (Digests_calls (RB.out.below B3.out) XP3.out (by omega) (by omega) B3.out.size).mono ?_
      rintro e w4 ⟨D2, n2, c2, rfl, hb4, hD2⟩
      have B4 := Asd.mk (B3.out.trans (hb4.mono B3.out.size))
      have XP4 := Asd.mk (XP3.out.below hb4)
      have X14 := Asd.mk (X1.out.below hb4)
      have hR2 := Rd.own_ (base := w.heap.size) hD2
      have hd2 : digsR b ps = digsP b ps := by unfold digsR; rw [if_pos hwb]
      rw [hd2] at hR2
      rw [hwb]
      have X2 := Asd.mk hR2
      clear hb4 hD2 XP3 X1 hR2 hd2 hwb
      have hn1 : n1 ≤ 101 := by
        have h1 := X14.out.count (enc := uEnc) (fun _ => rfl) (by omega)
        have h2 := NP.out
        unfold digsP at h1
        rw [List.length_map] at h1
        omega
      go_wp2_with fail
      refine (Unlike_calls X14.out X2.out (by omega)).mono ?_
      rintro e w5 ⟨U, nu, cu, rfl, hb5, hU⟩
      have B5 := Asd.mk (B4.out.trans (hb5.mono B4.out.size))
      have XP5 := Asd.mk (XP4.out.below hb5)
      have hRU := Rd.own_ (base := w.heap.size) hU
      have hu0 : uerrP (digsP a ps) (digsP b ps) = 0 := by unfold uerrP digsP; rw [if_pos (by rw [List.length_map, List.length_map])]
      have hul : unlikeR (digsP a ps) (digsP b ps) = unlikeP (digsP a ps) (digsP b ps) np := by
        unfold unlikeR
        rw [if_pos hu0]
        congr 1
        unfold digsP
        rw [List.length_map, NP.out]
      rw [hul] at hRU
      rw [hu0]
      have NU := Asd.mk (hRU.count (enc := iEnc) (fun _ => rfl) (by omega))
      have XU := Asd.mk hRU
      have hnu : nu ≤ 101 := by
        have h1 := NU.out
        have h2 : (unlikeP (digsP a ps) (digsP b ps) np).length ≤ np := by
          unfold unlikeP
          rw [List.length_map]
          exact Nat.le_trans (List.length_filter_le _ _) (by rw [List.length_range]; exact Nat.le_refl _)
        omega
      have DA : Asd (∀ k (hk : k < ps.length), (digsP a ps).getD k 0 = digP (withinP a ps[k])) := ⟨fun k hk => digs_get a ps hk⟩
      have DB : Asd (∀ k (hk : k < ps.length), (digsP b ps).getD k 0 = digP (withinP b ps[k])) := ⟨fun k hk => digs_get b ps hk⟩
      generalize digsP a ps = da at *
      generalize digsP b ps = db at *
      clear hb5 hU XP4 X14 X2 hRU hu0 hul
      go_wp2_with fail
      go_loopw [14, 15, 84] (fun s14 s15 s84 wr => ∃ (j k nn cn : Nat) (An : Option Addr) (l : List Rw), s14 = .int .i64 j ∧ s15 = .slice An nn cn ∧ s84 = .int .i64 k ∧ k ≤ np ∧ Asd (Below w5.heap.size w5 wr) ∧ Asd (Rd w.heap.size 29 wr 3 An nn cn (rowCells l)) ∧ Asd (Mix f a b l k) ∧ Asd (j = (unlikeP da db k).length)) (fun _ _ s84 _ => np - (intOf s84).toNat)
      case atStart => exact ⟨0, 0, n, c, A, a, rfl, rfl, rfl, by omega, ⟨Below.refl _ _⟩, ⟨RA.out.below B5.out⟩, ⟨Mix.start SA.out⟩, ⟨rfl⟩⟩
      case round =>
        obtain ⟨j, k, nn, cn, An, l, rfl, rfl, rfl, hk, BW, LW, MX, JE⟩ := hrel
        have hnn : nn ≤ 200 := by
          have h1 := LW.out.count (enc := Rw.enc) (fun _ => rfl) (by omega)
          have h2 := MX.out.len SA.out SB.out
          have h3 := NA.out
          have h4 := NB.out
          omega
        by_cases hlt : k < np
        · have hil : k < ps.length := by have := NP.out; omega
          obtain ⟨pb, po, rfl, _, hil', hcs⟩ := (XP5.out.below BW.out).at_enc (enc := SpanR.enc) (fun _ => rfl) (by omega) hlt
          have hcap : k < cp := Nat.lt_of_lt_of_le hlt XP5.out.cap
          have WL : Asd (withinP l ps[k] = partOf f a k) := ⟨(WA.out l k hil).trans (MX.out.part SA.out)⟩
          have WB : Asd (withinP b ps[k] = partOf f b k) := ⟨WA.out b k hil⟩
          have EA : Asd (da.getD k 0 = digP (partOf f a k)) := ⟨by rw [DA.out k hil, WA.out a k hil]⟩
          have EB : Asd (db.getD k 0 = digP (partOf f b k)) := ⟨by rw [DB.out k hil, WA.out b k hil]⟩
          generalize ps[k] = y at hcs WL WB
          obtain ⟨sf, st⟩ := y
          have c0 : wr.cell? ⟨pb, po + k * 2, none⟩ = some (.string sf) := hcs 0 _ rfl
          have c1 : wr.cell? ⟨pb, po + k * 2 + 1, none⟩ = some (.string st) := hcs 1 _ rfl
          have hal : Below wr.heap.size wr (wr.alloc (.cells #[.string sf, .string st] 39)) := (Below.refl _ _).alloc (Nat.le_refl _) _
          have B7 := Asd.mk (BW.out.trans (hal.mono BW.out.size))
          have L7 := Asd.mk (LW.out.below hal)
          have d0 : (wr.alloc (.cells #[.string sf, .string st] 39)).cell? ⟨wr.heap.size, 0, none⟩ = some (.string sf) := (cell_of_row _ _ 0 _ _ _ (heap_alloc_new wr _)).trans rfl
          have d1 : (wr.alloc (.cells #[.string sf, .string st] 39)).cell? ⟨wr.heap.size, 1, none⟩ = some (.string st) := (cell_of_row _ _ 1 _ _ _ (heap_alloc_new wr _)).trans rfl
          have hl7 : wr.heap.size < (wr.alloc (.cells #[.string sf, .string st] 39)).heap.size := by simp
          have WI : Asd (∀ (W : World) (A : Option Addr) (n c : Nat) (l : List Rw), Rd w.heap.size 29 W 3 A n c (rowCells l) → n ≤ 100000 → Calls Try.prog 32 #[.slice A n c, .agg #[.string sf, .string st]] W (WithinPost W l ⟨sf, st⟩)) := ⟨fun W A n c l h1 h2 => within_calls h1 h2 ⟨sf, st⟩⟩
          clear hcs hal hil' LW BW
          go_wp2_with fail
          clear c0 c1
          generalize (wr.alloc (.cells #[.string sf, .string st] 39)) = w7 at *
          generalize wr.heap.size = rb at *
          have RB7 := Asd.mk (RB.out.below (B5.out.trans (B7.out.mono B5.out.size)))
          go_region_with (first
            | (go_at_call_of 32 (Value.slice An nn cn); refine (WI.out _ _ _ _ _ (L7.out.below ((Below.refl _ _).drew)) (by omega)).mono ?_; rintro e wa ⟨Pm, nm, cm, rfl, hba, hom⟩; have BA := Asd.mk (((Below.refl w7.heap.size w7).drew).trans hba); have XM := Asd.mk (Rd.own_ (base := w.heap.size) hom); have da0 : wa.cell? ⟨rb, 0, none⟩ = some (.string sf) := ((bcell BA.out).1 rb 0 hl7).trans d0; have da1 : wa.cell? ⟨rb, 1, none⟩ = some (.string st) := ((bcell BA.out).1 rb 1 hl7).trans d1; clear hba hom)
            | (go_at_call_of 32 (Value.slice B m d); refine (WI.out _ _ _ _ _ (RB7.out.below BA.out) (by omega)).mono ?_; rintro e wb ⟨Pt, nt, ct, rfl, hbb, hot⟩; have BB := Asd.mk (BA.out.trans (hbb.mono BA.out.size)); have XM2 := Asd.mk (XM.out.below hbb); have XT := Asd.mk (Rd.own_ (base := w.heap.size) hot); clear hbb hot))
          all_goals
            have XMM : Asd (Rd w.heap.size 29 wb 3 Pm nm cm (rowCells (partOf f a k))) := ⟨by rw [← WL.out]; exact XM2.out⟩
            have XTT : Asd (Rd w.heap.size 29 wb 3 Pt nt ct (rowCells (partOf f b k))) := ⟨by rw [← WB.out]; exact XT.out⟩
            have LB := Asd.mk (L7.out.below BB.out)
            have B8 := Asd.mk (B7.out.trans (BB.out.mono B7.out.size))
            have B9 := Asd.mk (B5.out.trans (B8.out.mono B5.out.size))
            have hnm : nm ≤ 100 := by
              have h1 := XMM.out.count (enc := Rw.enc) (fun _ => rfl) (by omega)
              have h2 := partOf_len f a k
              have h3 := NA.out
              omega
            have hnt : nt ≤ 100 := by
              have h1 := XTT.out.count (enc := Rw.enc) (fun _ => rfl) (by omega)
              have h2 := partOf_len f b k
              have h3 := NB.out
              omega
            clear da0 da1 d0 d1 hl7 WI RB7 XM XM2 XT WL WB BA BB L7 B7
            have hlu : (unlikeP da db np).length = nu := NU.out
            by_cases hdd : da.getD k 0 = db.getD k 0
            · have DE : Asd (digP (partOf f a k) = digP (partOf f b k)) := ⟨by rw [← EA.out, ← EB.out]; exact hdd⟩
              have hmi := unl_miss (k := k) (m := np) hlt hdd
              have J2 : Asd (j = (unlikeP da db (k + 1)).length) := ⟨by rw [hmi.1]; exact JE.out⟩
              have SS := Asd.mk (SameRows_calls XMM.out XTT.out (by omega))
              have G1 : Asd (∀ W, Below wb.heap.size wb W → Calls Try.prog 23 #[.slice Pm nm cm] W fun e w' => e = .returned (.int .u64 (digP (partOf f b k))) ∧ Below W.heap.size W w') := ⟨fun W hW => by
                have h := Digest_calls (XMM.out.below hW) (by omega) (ok_sizes (partOf_wrong HWA.out))
                rwa [DE.out] at h⟩
              have G2 : Asd (∀ W, Below wb.heap.size wb W → Calls Try.prog 23 #[.slice Pt nt ct] W fun e w' => e = .returned (.int .u64 (digP (partOf f b k))) ∧ Below W.heap.size W w') := ⟨fun W hW => Digest_calls (XTT.out.below hW) (by omega) (ok_sizes (partOf_wrong HWB.out))⟩
              generalize digP (partOf f b k) = dg at G1 G2
              have MK : Asd (partOf f a k = partOf f b k → Mix f a b l (k + 1)) := ⟨fun h => MX.out.skip h⟩
              have hcase : (∃ (ub uo : Nat) (v : Int), U = some ⟨ub, uo, none⟩ ∧ j < nu ∧ j < cu ∧ wb.cell? ⟨ub, uo + j, none⟩ = some (.int .i64 v) ∧ v ≠ (k : Int)) ∨ ¬ j < nu := by
                by_cases hj : j < nu
                · left
                  obtain ⟨ub, uo, hA, _, hju, hus⟩ := (XU.out.below B8.out).at_enc (enc := iEnc) (fun _ => rfl) (by omega) hj
                  have hv := hmi.2 (by rw [← JE.out, hlu]; exact hj)
                  refine ⟨ub, uo, (unlikeP da db np)[j], hA, hj, Nat.lt_of_lt_of_le hj XU.out.cap, by simpa using hus 0 _ rfl, ?_⟩
                  have hje := JE.out
                  subst hje
                  exact hv
                · exact .inr hj
              clear hmi hdd DE EA EB hlu
              rcases hcase with ⟨ub, uo, v, rfl, hj1, hj2, u0, hv⟩ | hj1
              · have hv2 : (v == (k : Int)) = false := by simpa using hv
                go_wp2_with fail
                refine SS.out.mono ?_
                rintro e wc ⟨rfl, hbc⟩
                by_cases hpp : partOf f a k = partOf f b k
                · have MK2 := Asd.mk (MK.out hpp)
                  rw [decide_eq_true hpp]
                  have LC := Asd.mk (LB.out.below hbc)
                  have BC := Asd.mk (B8.out.trans (hbc.mono B8.out.size))
                  clear hpp MK G1 G2 SS hbc
                  go_wp2_with fail
                  go_roundw
                  case measure => simp [intOf]; omega
                  case rel => exact ⟨j, k + 1, nn, cn, An, l, rfl, rfl, by go_num, by omega, BC, LC, MK2, J2⟩
                · rw [decide_eq_false hpp]
                  have HC := Asd.mk hbc
                  clear hpp MK SS hbc
                  go_wp2_with fail
                  refine (G1.out _ HC.out).mono ?_
                  rintro e wd ⟨rfl, hbd⟩
                  have HD := Asd.mk (HC.out.trans (hbd.mono HC.out.size))
                  clear hbd
                  go_wp2_with fail
                  refine (G2.out _ HD.out).mono ?_
                  rintro e we ⟨rfl, hbe⟩
                  have HE := Asd.mk (HD.out.trans (hbe.mono HD.out.size))
                  clear hbe
                  go_wp2_with fail
                  go_ret
                  exact ⟨rfl, B9.out.trans (HE.out.mono B9.out.size)⟩
              · go_wp2_with fail
                refine SS.out.mono ?_
                rintro e wc ⟨rfl, hbc⟩
                by_cases hpp : partOf f a k = partOf f b k
                · have MK2 := Asd.mk (MK.out hpp)
                  rw [decide_eq_true hpp]
                  have LC := Asd.mk (LB.out.below hbc)
                  have BC := Asd.mk (B8.out.trans (hbc.mono B8.out.size))
                  clear hpp MK G1 G2 SS hbc
                  go_wp2_with fail
                  go_roundw
                  case measure => simp [intOf]; omega
                  case rel => exact ⟨j, k + 1, nn, cn, An, l, rfl, rfl, by go_num, by omega, BC, LC, MK2, J2⟩
                · rw [decide_eq_false hpp]
                  have HC := Asd.mk hbc
                  clear hpp MK SS hbc
                  go_wp2_with fail
                  refine (G1.out _ HC.out).mono ?_
                  rintro e wd ⟨rfl, hbd⟩
                  have HD := Asd.mk (HC.out.trans (hbd.mono HC.out.size))
                  clear hbd
                  go_wp2_with fail
                  refine (G2.out _ HD.out).mono ?_
                  rintro e we ⟨rfl, hbe⟩
                  have HE := Asd.mk (HD.out.trans (hbe.mono HD.out.size))
                  clear hbe
                  go_wp2_with fail
                  go_ret
                  exact ⟨rfl, B9.out.trans (HE.out.mono B9.out.size)⟩
            · have hhi := unl_hit (k := k) (m := np) hlt hdd
              have J2 : Asd (j + 1 = (unlikeP da db (k + 1)).length) := ⟨by rw [hhi.1, ← JE.out]⟩
              have hj : j < nu := by
                obtain ⟨hl, _⟩ := hhi.2
                rw [← JE.out, hlu] at hl
                exact hl
              obtain ⟨ub, uo, hA, _, hju, hus⟩ := (XU.out.below B8.out).at_enc (enc := iEnc) (fun _ => rfl) (by omega) hj
              have hv : (unlikeP da db np)[j] = (k : Int) := by
                obtain ⟨hl, hv⟩ := hhi.2
                have hje := JE.out
                subst hje
                exact hv
              have u0 : wb.cell? ⟨ub, uo + j, none⟩ = some (.int .i64 (k : Int)) := by
                rw [← hv]
                simpa using hus 0 _ rfl
              have hj2 : j < cu := Nat.lt_of_lt_of_le hj XU.out.cap
              have SM := Asd.mk (partOf_sorted (f := f) (i := k) SA.out)
              have ST := Asd.mk (partOf_sorted (f := f) (i := k) SB.out)
              have WM := Asd.mk (partOf_wrong (f := f) (k := k) HWA.out)
              have WT := Asd.mk (partOf_wrong (f := f) (k := k) HWB.out)
              have NE : Asd (partOf f a k ≠ partOf f b k) := ⟨fun h => hdd (by rw [EA.out, EB.out, h])⟩
              have MP : Asd (∀ out, Patched l (putP (partOf f a k) (partOf f b k)) (goneP (partOf f a k) (partOf f b k)) out → Mix f a b out (k + 1)) := ⟨fun out h => MX.out.patch SA.out SB.out h⟩
              have WLL := Asd.mk (MX.out.wrong HWA.out HWB.out)
              have DF := Asd.mk (Diff_calls XMM.out XTT.out (by omega) (by omega) (Nat.le_trans B5.out.size B8.out.size))
              generalize partOf f a k = mi at *
              generalize partOf f b k = th at *
              subst hA
              clear hhi hdd EA EB hlu hv hus hju
              have hjw := wrapIn (z := (j : Int) + 1) (by omega)
              have hj1 := hjw.1
              have hj1' := hjw.2
              clear hjw
              go_wp2_with fail
              clear hj1 hj1'
              refine DF.out.mono ?_
              rintro e wc ⟨P1, D1', np1, cp1, nd1, cd1, rfl, hbc, hP1, hD1⟩
              have he0 : errP mi th = 0 := errP_zero WM.out WT.out
              have hput : putR mi th = putP mi th := by unfold putR; rw [if_pos he0]
              have hgon : goneR mi th = goneP mi th := by unfold goneR; rw [if_pos he0]
              have h1 := own_len hP1
              have h2 := own_tlen hD1
              have HP1 := Rd.own_ (base := w.heap.size) hP1
              have HD1 := Rd.own_ (base := w.heap.size) hD1
              rw [hput] at h1 HP1
              rw [hgon] at h2 HD1
              rw [he0]
              have hl1 := putP_len mi th
              have hl2 := goneP_len mi th
              have hlm := XMM.out.count (enc := Rw.enc) (fun _ => rfl) (by omega)
              have hlt2 := XTT.out.count (enc := Rw.enc) (fun _ => rfl) (by omega)
              have hnz : ¬ (np1 = 0 ∧ nd1 = 0) := by
                rintro ⟨e1, e2⟩
                refine NE.out (diff_none SM.out ST.out (List.eq_nil_of_length_eq_zero (by omega)) (List.eq_nil_of_length_eq_zero (by omega)))
              have hp100 : np1 ≤ 100 := by omega
              have hd100 : nd1 ≤ 100 := by omega
              have XP1 := Asd.mk HP1
              have XD1 := Asd.mk HD1
              have BC := Asd.mk hbc
              have LC := Asd.mk (LB.out.below hbc)
              have hs3 : ((np1 : Int) + (nd1 : Int) == 0) = false := by rw [beq_eq_false_iff_ne]; omega
              have hs4 : ¬ (np1 : Int) + (nd1 : Int) = 0 := by omega
              have hsum := wrapIn (z := (np1 : Int) + (nd1 : Int)) (by omega)
              have hs1 := hsum.1
              have hs2 := hsum.2
              clear he0 hput hgon h1 h2 hP1 hD1 HP1 HD1 hl1 hl2 hlm hlt2 hnz hbc hsum DF
              go_wp2_with fail
              clear hs1 hs2 hs3 hs4
              have BD := Asd.mk (B8.out.trans (BC.out.mono B8.out.size))
              refine (Patch_calls LC.out XP1.out XD1.out (by omega) (by omega) (by omega) (Nat.le_trans B5.out.size BD.out.size)).mono ?_
              rintro e we ⟨Q, nq, cq, ou, err, rfl, hbe, hQ, hr⟩
              have hok : err = 0 ∧ Patched l (putP mi th) (goneP mi th) ou := by
                rcases hr with ⟨h1, _⟩ | ⟨_, h1⟩
                · exact absurd (errP_zero WLL.out (putP_wrong WT.out)) h1
                · rcases h1 with ⟨h1, _⟩ | ⟨_, h2, h3⟩
                  · exact absurd (diff_ok SM.out) h1
                  · exact ⟨h2, h3⟩
              obtain ⟨rfl, hpt⟩ := hok
              have MX2 := Asd.mk (MP.out ou hpt)
              have XQ := Asd.mk (Rd.own_ (base := w.heap.size) hQ)
              have BE := Asd.mk (BD.out.trans (hbe.mono BD.out.size))
              clear hr hpt hQ hbe XP1 XD1 MP
              go_wp2_with fail
              go_roundw
              case measure => simp [intOf]; omega
              case rel => exact ⟨j + 1, k + 1, nq, cq, Q, ou, by go_num, rfl, by go_num, by omega, BE, XQ, MX2, J2⟩
        · obtain rfl : k = np := by omega
          have hlu : (unlikeP da db k).length = nu := NU.out
          have hju : j = nu := by rw [JE.out, hlu]
          subst hju
          have hle : l = b := MX.out.all SB.out (fun x => by rw [← NP.out]; exact IL.out x)
          subst hle
          have B8 := Asd.mk (B5.out.trans (BW.out.mono B5.out.size))
          have SS := Asd.mk (SameRows_calls LW.out (RB.out.below B8.out) (by omega))
          rw [decide_eq_true rfl] at SS
          clear hlu MX JE
          go_wp2_with fail
          refine SS.out.mono ?_
          rintro e wc ⟨rfl, hbc⟩
          have B9 := Asd.mk (B8.out.trans (hbc.mono B8.out.size))
          clear hbc SS
          go_wp2_with fail
          go_ret
          exact ⟨rfl, B9.out⟩
    · have hd1 : digsR a ps = [] := by unfold digsR; rw [if_neg hwa]
      rw [hd1] at hR1
      have h0 : n1 = 0 := by
        have h1 := hR1.len
        simpa using h1.symm
      subst h0
      have hz1 : (wrongP a == 0) = false := by rw [beq_eq_false_iff_ne]; exact hwa
      have hz2 : (wrongP a != 0) = true := by rw [bne_iff_ne]; exact hwa
      have hz3 := hwa
      have DG := Asd.mk (Digests_calls (RB.out.below B3.out) XP3.out (by omega) (by omega) B3.out.size)
      clear hR1 hd1 hwa
      generalize wrongP a = E at hz1 hz2 hz3 ⊢
      go_wp2_with fail
      refine DG.out.mono ?_
      rintro e w4 ⟨D2, n2, c2, rfl, hb4, hD2⟩
      have B4 := Asd.mk (B3.out.trans (hb4.mono B3.out.size))
      rw [hwb]
      clear hb4 hD2 hwb
      go_wp2_with fail
      go_ret
      exact ⟨rfl, B4.out⟩
  · have hp0 : partsR b most = [] := by unfold partsR; rw [if_neg he]
    rw [hp0] at hRP
    have h0 : np = 0 := by
      have h1 : (0 : Nat) = np * 2 := hRP.len
      omega
    subst h0
    have hz1 : (perrP b most == 0) = false := by rw [beq_eq_false_iff_ne]; exact he
    have hz2 : (perrP b most != 0) = true := by rw [bne_iff_ne]; exact he
    clear hRP hp0
    generalize perrP b most = E at hz1 hz2 he ⊢
    go_wp2_with fail
    go_ret
    exact ⟨rfl, B2.out⟩
end Go.Proofs.Ytgiajfgeplekbaa

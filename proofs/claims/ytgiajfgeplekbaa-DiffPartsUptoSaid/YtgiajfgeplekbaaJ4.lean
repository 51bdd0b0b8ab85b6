/- The document's Digests. -/
import Derived.Test.YtgiajfgeplekbaaJ1
import Derived.Test.YtgiajfgeplekbaaJ3
import Derived.Test.YtgiajfgeplekbaaQ2
import Derived.Test.YtgiajfgeplekbaaH10
set_option linter.unusedVariables false
set_option linter.unusedSimpArgs false
namespace Go.Proofs.Ytgiajfgeplekbaa
open Go.RowKit

theorem ok_small {l : List Rw} (h : wrongP l = 0) : ∀ r ∈ l, r.key.size ≤ 1048576 ∧ r.val.size ≤ 1048576 := by
  intro r hr
  have h1 := (wrongP_zero.1 h).1 r hr
  unfold rowOk at h1
  simp only [Bool.and_eq_true, decide_eq_true_eq] at h1
  omega

set_option maxHeartbeats 16000000 in
set_option maxRecDepth 100000 in
theorem RefDigests_calls {base : Nat} {w : World} {A P : Option Addr} {n c m d : Nat} {l : List Rw} {ps : List SpanR} (hr : Rd base 29 w 3 A n c (rowCells l)) (hp : Rd base 39 w 2 P m d (sCells ps)) (hn : n ≤ 100000) (hm : m ≤ 100000) :
    Calls Try.prog 22 #[.slice A n c, .slice P m d] w (DigsPost w l ps) := by
  have hcn := hr.count (enc := Rw.enc) (fun _ => rfl) (by omega)
  have hcm := hp.count (enc := SpanR.enc) (fun _ => rfl) (by omega)
  have N := Asd.mk hcn
  have M := Asd.mk hcm
  have R := Asd.mk hr
  have RP := Asd.mk hp
  clear hr hp hcn hcm
  go_enter Try.func22, Try.ntmps22
  go_wp2_with fail
  refine (RefWrong_calls R.out hn).mono ?_
  rintro e w1 ⟨rfl, hb1⟩
  have B1 := Asd.mk hb1
  clear hb1
  by_cases he : wrongP l = 0
  · have HE := Asd.mk he
    have SZ := Asd.mk (ok_small he)
    rw [he]
    clear he
    go_wp2_with fail
    go_loopw [7, 8] (fun s7 s8 wr => ∃ (k co : Nat) (Ao : Option Addr), s7 = .slice Ao k co ∧ s8 = .int .i64 k ∧ k ≤ m ∧ Asd (Below w.heap.size w wr) ∧ Asd (wr.ownsRow w.heap.size 49 1 (.slice Ao k co) k ((digsP l (ps.take k)).flatMap uEnc))) (fun _ s8 _ => m - (intOf s8).toNat)
    case atStart => exact ⟨0, 0, none, rfl, rfl, by omega, B1, ⟨World.ownsRow_nil _ _ _ _⟩⟩
    case round =>
      obtain ⟨k, co, Ao, rfl, rfl, hk, BW, OW⟩ := hrel
      by_cases hlt : k < m
      · have hil : k < ps.length := by have := M.out; omega
        obtain ⟨wI, hwI⟩ : ∃ W, W = wr := ⟨_, rfl⟩
        subst hwI
        have HI : Asd (∀ W, Below wI.heap.size wI W → ∀ key, ∃ b off, P = some ⟨b, off, none⟩ ∧ Calls Try.prog 43 #[.slice (some ⟨b, off + k * 2, none⟩) 1 (d - k), .string key] W fun e w' => e = .returned (.bool (hasP key ps[k])) ∧ w' = W) := ⟨fun W hW key => by
          have hB := BW.out.trans (hW.mono BW.out.size)
          obtain ⟨b, off, rfl, _, _⟩ := (RP.out.below hB).at_ (show 0 < m by omega)
          have h1 := Rd.one_ (enc := SpanR.enc) (RP.out.below hB) (fun _ => rfl) hlt hil
          have h2 := RefHas_calls (l := [ps[k]]) (by simpa [sCells] using h1) (by omega) key
          rw [show [ps[k]].any (hasP key) = hasP key ps[k] from by simp] at h2
          exact ⟨b, off, rfl, h2⟩⟩
        obtain ⟨pb, po, hPA, _⟩ := HI.out wI (Below.refl _ _) ⟨#[]⟩
        have HH : Asd (∀ W, Below wI.heap.size wI W → ∀ key, Calls Try.prog 43 #[.slice (some ⟨pb, po + k * 2, none⟩) 1 (d - k), .string key] W fun e w' => e = .returned (.bool (hasP key ps[k])) ∧ w' = W) := ⟨fun W hW key => by
          obtain ⟨b, off, hA, h⟩ := HI.out W hW key
          rw [hPA] at hA
          cases hA
          exact h⟩
        have hdc : k < d := Nat.lt_of_lt_of_le hlt RP.out.cap
        have hdm : m ≤ d := RP.out.cap
        have hsn : digsP l (ps.take (k + 1)) = digsP l (ps.take k) ++ [digP (withinP l ps[k])] := by
          rw [List.take_succ_eq_append_getElem hil, digsP_snoc]
        have SN := Asd.mk hsn
        have SW : Asd (∀ r ∈ withinP l ps[k], r.key.size ≤ 1048576 ∧ r.val.size ≤ 1048576) := ⟨fun r hr => SZ.out r (List.mem_filter.1 hr).1⟩
        have LW : Asd ((withinP l ps[k]).length ≤ n) := ⟨by rw [← N.out]; exact List.length_filter_le _ _⟩
        generalize ps[k] = s at *
        subst hPA
        clear HI hsn
        go_wp2_with fail
        go_loopw [9, 10] (fun s9 s10 wq => ∃ (q no ci : Nat) (Pi : Option Addr), s9 = .slice Pi no ci ∧ s10 = .int .i64 q ∧ q ≤ n ∧ no ≤ q ∧ Asd (Below wI.heap.size wI wq) ∧ Asd (wq.ownsRow wI.heap.size 29 3 (.slice Pi no ci) no (rowCells (withinP (l.take q) s)))) (fun _ s10 _ => n - (intOf s10).toNat)
        case atStart => exact ⟨0, 0, 0, none, rfl, rfl, by omega, by omega, ⟨Below.refl _ _⟩, ⟨World.ownsRow_nil _ _ _ _⟩⟩
        case round =>
          obtain ⟨q, no, ci, Pi, rfl, rfl, hq, hno, BQ, OQ⟩ := hrel
          have BN := Asd.mk (BW.out.trans (BQ.out.mono BW.out.size))
          by_cases hlq : q < n
          · have hiq : q < l.length := by have := N.out; omega
            obtain ⟨b, off, rfl, _, _, c0, c1, c2⟩ := (R.out.below BN.out).row hlq
            have hcap : q < c := Nat.lt_of_lt_of_le hlq R.out.cap
            have hwn : withinP (l.take (q + 1)) s = withinP (l.take q) s ++ (if hasP l[q].key s = true then [l[q]] else []) := by
              rw [List.take_succ_eq_append_getElem hiq, withinP_snoc]
            have CC : Asd (∀ W, Below wr.heap.size wr W → W.cell? ⟨b, off + q * 3, none⟩ = some (.string l[q].key) ∧ W.cell? ⟨b, off + q * 3 + 1, none⟩ = some (.int .i64 l[q].stamp) ∧ W.cell? ⟨b, off + q * 3 + 2, none⟩ = some (.string l[q].val)) := ⟨fun W hW => by
              obtain ⟨b', off', hA, _, _, c0, c1, c2⟩ := (R.out.below (BN.out.trans (hW.mono BN.out.size))).row hlq
              cases hA
              exact ⟨c0, c1, c2⟩⟩
            generalize l[q] = y at c0 c1 c2 hwn CC
            have WN := Asd.mk hwn
            have HC : Asd (∀ W, Below wr.heap.size wr W → Calls Try.prog 43 #[.slice (some ⟨pb, po + k * 2, none⟩) 1 (d - k), .string y.key] W fun e w' => e = .returned (.bool (hasP y.key s)) ∧ w' = W) := ⟨fun W hW => HH.out W (BQ.out.trans (hW.mono BQ.out.size)) y.key⟩
            have hdk : ¬ d = k := by omega
            have hbd : (0 : Int) ≤ (k : Int) ∧ (k : Int) ≤ (k : Int) + 1 ∧ (k : Int) + 1 ≤ (d : Int) ∧ (k : Int) + 1 ≤ (m : Int) := by omega
            have hw2 : IntKind.i64.wrap ((k : Int) + 1) = (k : Int) + 1 := IntWalk.i64_in _ (by omega)
            have hw1 : wrap64 ((k : Int) + 1) = (k : Int) + 1 := (wrapIn (by omega)).1
            clear hwn c1 c2
            cases hh : hasP y.key s
            · rw [hh] at HC
              have HHH := Asd.mk hh
              clear hh
              go_wp2_with fail
              go_quiet (first | (go_at_call 43; exact Calls.quiet_of_same (HC.out _ (below_dn _ _))))
              have BQ2 := Asd.mk (BQ.out.trans ((below_dn (B := wr.heap.size) wr nq).mono BQ.out.size))
              have OQ2 : Asd ((wr.drewN nq).ownsRow wI.heap.size 29 3 (.slice Pi no ci) no (rowCells (withinP (l.take (q + 1)) s))) := ⟨by rw [WN.out, if_neg (by rw [HHH.out]; decide), List.append_nil]; exact OQ.out.kept (gb_below (below_dn _ _) none) (by cases (Value.slice Pi no ci).ownBlock <;> simp)⟩
              clear hw1 hw2 hbd c0
              generalize wr.drewN nq = wz at *
              go_wp2_with fail
              go_roundw
              case measure => simp [intOf]; omega
              case rel => exact ⟨q + 1, no, ci, Pi, rfl, by go_num, by omega, by omega, BQ2, OQ2⟩
            · rw [hh] at HC
              have S2 : Asd (withinP (l.take (q + 1)) s = withinP (l.take q) s ++ [y]) := ⟨by rw [WN.out, if_pos hh]⟩
              clear hh WN
              go_wp2_with fail
              go_quiet (first | (go_at_call 43; exact Calls.quiet_of_same (HC.out _ (below_dn _ _))))
              have BQ2 := Asd.mk (BQ.out.trans ((below_dn (B := wr.heap.size) wr nq).mono BQ.out.size))
              have OQ2 := Asd.mk (OQ.out.kept (gb_below (below_dn (B := wr.heap.size) wr nq) none) (by cases (Value.slice Pi no ci).ownBlock <;> simp))
              obtain ⟨c3, c4, c5⟩ := CC.out _ (below_dn (B := wr.heap.size) wr nq)
              have SIZ := Asd.mk (Nat.le_trans BQ2.out.size (Nat.le_refl (wr.drewN nq).heap.size))
              clear hw1 hw2 hbd c0 HC CC
              generalize wr.drewN nq = wz at *
              go_wp2_with (at_builtin; go_loud (refine wpList_append_mine (base := base) (own := wI.heap.size) (n := no) (m := 1) (v := .slice Pi no ci) (xs := rowCells (withinP (l.take q) s)) (ys := rowCells [y]) rfl (.tmp 39) (.tmp 44) 22 rfl elt_row rfl rfl (OQ2.out.alloc _) (Rd.new_ rfl rfl) (row_one _) (by unfold maxLen; omega) (by omega) (Nat.le_trans BQ2.out.size (by simp)) ?_; intro v8 w8 O8' G8'; obtain ⟨P8, c8, rfl, _⟩ := Rd.of_own (base := base) O8'; have O8 : Asd (w8.ownsRow wI.heap.size 29 3 (.slice P8 (no + 1) c8) (no + 1) (rowCells (withinP (l.take (q + 1)) s))) := ⟨by have h := O8'; rw [S2.out]; unfold rowCells at h ⊢; rw [List.flatMap_append]; exact h⟩; have B8 := Asd.mk ((BQ2.out.alloc BQ2.out.size (.cells #[.string y.key, .int .i64 y.stamp, .string y.val] 29)).grown G8' (Nat.le_trans BQ2.out.size (by simp)) (fun j hj => (OQ2.out.lt j hj).1)); clear O8' G8'))
              go_roundw
              case measure => simp [intOf]; omega
              case rel => exact ⟨q + 1, no + 1, c8, P8, rfl, by go_num, by omega, by omega, B8, O8⟩
          · obtain rfl : q = n := by omega
            have hf : withinP (l.take q) s = withinP l s := by rw [List.take_of_length_le (by have := N.out; omega)]
            have OQF : Asd (Rd base 29 wr 3 Pi no ci (rowCells (withinP l s))) := ⟨by
              obtain ⟨_, _, e, hr⟩ := Rd.of_own (base := base) OQ.out
              injection e with e1 _ e2
              subst e1 e2
              rw [← hf]
              exact hr⟩
            have DG := Asd.mk (RefDigest_calls OQF.out (by omega) SW.out)
            have OO := Asd.mk (OW.out.kept (gb_below BQ.out none) (by cases (Value.slice Ao k co).ownBlock <;> simp))
            clear hf OQ
            go_wp2_with fail
            refine DG.out.mono ?_
            rintro e w5 ⟨rfl, hb5⟩
            have B6 := Asd.mk (BN.out.trans (hb5.mono BN.out.size))
            have O6 := Asd.mk (OO.out.kept (gb_below hb5 none) (by cases (Value.slice Ao k co).ownBlock <;> simp))
            clear hb5 DG OO
            go_wp2_with (at_builtin; refine wpList_append_mine (base := base) (own := w.heap.size) (n := k) (m := 1) (v := .slice Ao k co) (xs := (digsP l (ps.take k)).flatMap uEnc) (ys := [digP (withinP l s)].flatMap uEnc) rfl (.tmp 46) (.tmp 49) 41 rfl elt_u64 rfl rfl (O6.out.alloc _) (Rd.new_ rfl rfl) (u64_one _) (by unfold maxLen; omega) (by omega) (Nat.le_trans B6.out.size (by simp)) ?_; intro v8 w8 O8' G8'; obtain ⟨P8, c8, rfl, _⟩ := Rd.of_own (base := base) O8'; have O8 := Asd.mk O8'; have B8 := Asd.mk ((B6.out.alloc B6.out.size (.cells #[.int .u64 (digP (withinP l s))] 49)).grown G8' (Nat.le_trans B6.out.size (by simp)) (fun j hj => (O6.out.lt j hj).1)); clear O8' G8')
            go_roundw
            case measure => simp [intOf]; omega
            case rel =>
              have O9 := O8.out
              rw [show (digsP l (ps.take k)).flatMap uEnc ++ [digP (withinP l s)].flatMap uEnc = (digsP l (ps.take (k + 1))).flatMap uEnc from by rw [SN.out, List.flatMap_append]] at O9
              exact ⟨k + 1, c8, P8, rfl, by go_num, by omega, B8, ⟨O9⟩⟩
      · obtain rfl : k = m := by omega
        go_wp2_with fail
        go_ret2
        refine ⟨Ao, k, co, by rw [HE.out]; rfl, BW.out, ?_⟩
        unfold digsR
        rw [if_pos HE.out]
        have h := OW.out
        rwa [List.take_of_length_le (by have := M.out; omega)] at h
  · have hne : (wrongP l == 0) = false := by rw [beq_eq_false_iff_ne]; exact he
    have hne2 : (wrongP l != 0) = true := by rw [bne_iff_ne]; exact he
    have RZ : Asd (digsR l ps = []) := ⟨by unfold digsR; rw [if_neg he]⟩
    generalize hz : wrongP l = z at hne hne2 ⊢
    have ZZ := Asd.mk hz
    clear hz he
    go_wp2_with fail
    go_ret2
    refine ⟨none, 0, 0, by rw [ZZ.out]; rfl, B1.out, ?_⟩
    rw [RZ.out]
    exact World.ownsRow_nil _ _ _ _
end Go.Proofs.Ytgiajfgeplekbaa

/- The document's Diff. -/
import Derived.Test.YtgiajfgeplekbaaQ2
set_option linter.unusedVariables false
set_option linter.unusedSimpArgs false
namespace Go.Proofs.Ytgiajfgeplekbaa
open Go.RowKit
set_option maxHeartbeats 16000000 in
set_option maxRecDepth 100000 in
theorem RefDiff_calls {base : Nat} {w : World} {A B : Option Addr} {n c m d : Nat} {a b : List Rw} (ha : Rd base 29 w 3 A n c (rowCells a)) (hb : Rd base 29 w 3 B m d (rowCells b)) (hn : n ≤ 10000) (hm : m ≤ 10000) :
    Calls Try.prog 28 #[.slice A n c, .slice B m d] w (DiffPost base w a b) := by
  have hcn := ha.count (enc := Rw.enc) (fun _ => rfl) (by omega)
  have hcm := hb.count (enc := Rw.enc) (fun _ => rfl) (by omega)
  have RA := Asd.mk ha
  have RB := Asd.mk hb
  have NA := Asd.mk hcn
  have NB := Asd.mk hcm
  have W1 := Asd.mk (RefWrong_calls ha (by omega))
  have W2 : Asd (∀ W : World, Below w.heap.size w W → Calls Try.prog 39 #[.slice B m d] W fun e w' => e = .returned (.int .i64 (wrongP b)) ∧ Below W.heap.size W w') := ⟨fun W hW => RefWrong_calls (hb.below hW) (by omega)⟩
  clear ha hb hcn hcm
  by_cases h1 : wrongP a = 0
  · by_cases h2 : wrongP b = 0
    · have SA := Asd.mk (wrongP_sorted h1)
      have SB := Asd.mk (wrongP_sorted h2)
      have HE := Asd.mk (errP_zero h1 h2)
      rw [h1] at W1
      rw [h2] at W2
      clear h1 h2
      go_enter Try.func28, Try.ntmps28
      go_wp2_with fail
      refine W1.out.mono ?_
      rintro e w1 ⟨rfl, hb1⟩
      have B1 := Asd.mk hb1
      clear hb1
      go_wp2_with fail
      refine (W2.out _ B1.out).mono ?_
      rintro e w2 ⟨rfl, hb2⟩
      have B2 := Asd.mk (B1.out.trans (hb2.mono B1.out.size))
      clear hb2 B1
      go_wp2_with fail
      go_loopw [9, 10] (fun s9 s10 wr => ∃ (k np cp : Nat) (P : Option Addr), s9 = .slice P np cp ∧ s10 = .int .i64 k ∧ k ≤ m ∧ Asd (Below w.heap.size w wr) ∧ Asd (wr.ownsRow w.heap.size 29 3 (.slice P np cp) np (rowCells (putP a (b.take k))))) (fun _ s10 _ => m - (intOf s10).toNat)
      case atStart => exact ⟨0, 0, 0, none, rfl, rfl, by omega, B2, ⟨World.ownsRow_nil _ _ _ _⟩⟩
      case round =>
        clear B2
        obtain ⟨k, np, cp, P, rfl, rfl, hk, BW, OW⟩ := hrel
        by_cases hlt : k < m
        · have hil : k < b.length := by have := NB.out; omega
          obtain ⟨bb, boff, rfl, _, _, c0, c1, c2⟩ := (RB.out.below BW.out).row hlt
          have hcap : k < d := Nat.lt_of_lt_of_le hlt RB.out.cap
          generalize hy : b[k] = y at c0 c1 c2
          have hsn : putP a (b.take (k + 1)) = putP a (b.take k) ++ (if get a y.key = some y then [] else [y]) := by
            rw [List.take_succ_eq_append_getElem hil, putP_snoc, hy]
          have hnp : np ≤ k := by
            have h1 := own_len OW.out
            have h2 : (putP a (b.take k)).length ≤ (b.take k).length := List.length_filter_le _ _
            rw [List.length_take] at h2
            omega
          have SN := Asd.mk hsn
          clear hy hsn
          go_wp2_with fail
          refine (RefFind_calls (RA.out.below BW.out) (by omega) y.key).mono ?_
          rintro e w5 ⟨v, rfl, hw5, hv⟩
          subst hw5
          rcases hv with ⟨ht, rfl⟩ | ⟨i, hi, rfl, hik, ht⟩
          · have hg : get a y.key = none := get_there ht
            have NE := Asd.mk (show ¬ get a y.key = some y by rw [hg]; simp)
            clear hg ht
            go_wp2_with fail
            go_quiet (fail)
            have B7 := Asd.mk (BW.out.trans (below_dn (B := w.heap.size) _ nq))
            have O7 := Asd.mk (OW.out.kept (gb_below (below_dn (B := w5.heap.size) w5 nq) none) (by cases (Value.slice P np cp).ownBlock <;> simp))
            have E0 : Asd ((w5.drewN nq).cell? ⟨bb, boff + k * 3, none⟩ = some (.string y.key)) := ⟨c0⟩
            have E1 : Asd ((w5.drewN nq).cell? ⟨bb, boff + k * 3 + 1, none⟩ = some (.int .i64 y.stamp)) := ⟨c1⟩
            have E2 : Asd ((w5.drewN nq).cell? ⟨bb, boff + k * 3 + 2, none⟩ = some (.string y.val)) := ⟨c2⟩
            clear c0 c1 c2
            have SIZ := Asd.mk B7.out.size
            generalize w5.drewN nq = w7 at *
            have e0 : w7.cell? ⟨bb, boff + k * 3, none⟩ = some (.string y.key) := E0.out
            have e1 : w7.cell? ⟨bb, boff + k * 3 + 1, none⟩ = some (.int .i64 y.stamp) := E1.out
            have e2 : w7.cell? ⟨bb, boff + k * 3 + 2, none⟩ = some (.string y.val) := E2.out
            go_wp2_with (at_builtin; go_loud (refine wpList_append_mine (base := base) (own := w.heap.size) (n := np) (m := 1) (v := .slice P np cp) (xs := rowCells (putP a (b.take k))) (ys := rowCells [y]) rfl (.tmp 50) (.tmp 55) 22 rfl elt_row rfl rfl (O7.out.alloc _) (Rd.new_ rfl rfl) (row_one _) (by unfold maxLen; omega) (by omega) (Nat.le_trans SIZ.out (by simp)) ?_; intro v8 w8 O8' G8'; obtain ⟨P8, c8, rfl, _⟩ := Rd.of_own (base := base) O8'; have O8 := Asd.mk O8'; have B8 := Asd.mk ((B7.out.alloc B7.out.size (.cells #[.string y.key, .int .i64 y.stamp, .string y.val] 29)).grown G8' (Nat.le_trans B7.out.size (by simp)) (fun j hj => (O7.out.lt j hj).1)); clear O8' G8'))
            go_roundw
            case measure => simp [intOf]; omega
            case rel =>
              have hre : rowCells (putP a (b.take k)) ++ rowCells [y] = rowCells (putP a (b.take (k + 1))) := by rw [SN.out, if_neg NE.out]; simp [rowCells]
              have O9 := O8.out
              rw [hre] at O9
              exact ⟨k + 1, np + 1, c8, P8, rfl, by go_num, by omega, B8, ⟨O9⟩⟩
          · have hin : i < n := by have := NA.out; omega
            have hic : i < c := Nat.lt_of_lt_of_le hin RA.out.cap
            obtain ⟨ab, aoff, rfl, _, _⟩ := RA.out.at_ (show 0 < n by omega)
            obtain ⟨k0, k1, k2⟩ := row_at (RA.out.below BW.out) hin hi
            have hgz : get a y.key = some a[i] := (get_some SA.out).2 ⟨List.getElem_mem hi, hik⟩
            rw [hik] at k0
            generalize a[i] = z at k0 k1 k2 hgz hik
            have hng : decide ((i : Int) < 0) = false := decide_eq_false (by omega)
            have hng2 : ¬ (i : Int) < 0 := by omega
            have ne_list : ∀ {a b : ByteArray}, a ≠ b → (a.toList == b.toList) = false ∧ ¬ a.toList = b.toList := fun {a b} h => ⟨by rw [same_eq]; exact decide_eq_false h, fun e => h (by rw [toList_eq, toList_eq] at e; exact key_ext e)⟩
            have NL := Asd.mk @ne_list
            have ZK := Asd.mk hik
            clear ne_list ht hik
            by_cases hs : z.stamp = y.stamp
            · by_cases hv : z.val = y.val
              · have hzy : z = y := by have := ZK.out; cases z; cases y; simp_all
                have EQ := Asd.mk (show get a y.key = some y by rw [hgz, hzy])
                rw [hs] at k1
                rw [hv] at k2
                clear hgz hzy hs hv
                go_wp2_with fail
                go_quiet (fail)
                have B7 := Asd.mk (BW.out.trans (below_dn (B := w.heap.size) _ nq))
                have O7 := Asd.mk (OW.out.kept (gb_below (below_dn (B := w5.heap.size) w5 nq) none) (by cases (Value.slice P np cp).ownBlock <;> simp))
                have E0 : Asd ((w5.drewN nq).cell? ⟨bb, boff + k * 3, none⟩ = some (.string y.key)) := ⟨c0⟩
                have E1 : Asd ((w5.drewN nq).cell? ⟨bb, boff + k * 3 + 1, none⟩ = some (.int .i64 y.stamp)) := ⟨c1⟩
                have E2 : Asd ((w5.drewN nq).cell? ⟨bb, boff + k * 3 + 2, none⟩ = some (.string y.val)) := ⟨c2⟩
                clear c0 c1 c2 k0 k1 k2
                have SIZ := Asd.mk B7.out.size
                generalize w5.drewN nq = w7 at *
                have e0 : w7.cell? ⟨bb, boff + k * 3, none⟩ = some (.string y.key) := E0.out
                have e1 : w7.cell? ⟨bb, boff + k * 3 + 1, none⟩ = some (.int .i64 y.stamp) := E1.out
                have e2 : w7.cell? ⟨bb, boff + k * 3 + 2, none⟩ = some (.string y.val) := E2.out
                go_wp2_with fail
                go_roundw
                case measure => simp [intOf]; omega
                case rel =>
                  have O9 := O7.out
                  rw [show putP a (b.take k) = putP a (b.take (k + 1)) from by rw [SN.out, if_pos EQ.out]; simp] at O9
                  exact ⟨k + 1, np, cp, P, rfl, by go_num, by omega, B7, ⟨O9⟩⟩
              · have NE := Asd.mk (show ¬ get a y.key = some y by rw [hgz]; intro e; injection e with e; exact hv (by rw [e]))
                obtain ⟨q1, q2⟩ := NL.out hv
                rw [hs] at k1
                clear hgz hs hv
                go_wp2_with fail
                go_quiet (fail)
                have B7 := Asd.mk (BW.out.trans (below_dn (B := w.heap.size) _ nq))
                have O7 := Asd.mk (OW.out.kept (gb_below (below_dn (B := w5.heap.size) w5 nq) none) (by cases (Value.slice P np cp).ownBlock <;> simp))
                have E0 : Asd ((w5.drewN nq).cell? ⟨bb, boff + k * 3, none⟩ = some (.string y.key)) := ⟨c0⟩
                have E1 : Asd ((w5.drewN nq).cell? ⟨bb, boff + k * 3 + 1, none⟩ = some (.int .i64 y.stamp)) := ⟨c1⟩
                have E2 : Asd ((w5.drewN nq).cell? ⟨bb, boff + k * 3 + 2, none⟩ = some (.string y.val)) := ⟨c2⟩
                clear c0 c1 c2 k0 k1 k2
                have SIZ := Asd.mk B7.out.size
                generalize w5.drewN nq = w7 at *
                have e0 : w7.cell? ⟨bb, boff + k * 3, none⟩ = some (.string y.key) := E0.out
                have e1 : w7.cell? ⟨bb, boff + k * 3 + 1, none⟩ = some (.int .i64 y.stamp) := E1.out
                have e2 : w7.cell? ⟨bb, boff + k * 3 + 2, none⟩ = some (.string y.val) := E2.out
                go_wp2_with (at_builtin; go_loud (refine wpList_append_mine (base := base) (own := w.heap.size) (n := np) (m := 1) (v := .slice P np cp) (xs := rowCells (putP a (b.take k))) (ys := rowCells [y]) rfl (.tmp 50) (.tmp 55) 22 rfl elt_row rfl rfl (O7.out.alloc _) (Rd.new_ rfl rfl) (row_one _) (by unfold maxLen; omega) (by omega) (Nat.le_trans SIZ.out (by simp)) ?_; intro v8 w8 O8' G8'; obtain ⟨P8, c8, rfl, _⟩ := Rd.of_own (base := base) O8'; have O8 := Asd.mk O8'; have B8 := Asd.mk ((B7.out.alloc B7.out.size (.cells #[.string y.key, .int .i64 y.stamp, .string y.val] 29)).grown G8' (Nat.le_trans B7.out.size (by simp)) (fun j hj => (O7.out.lt j hj).1)); clear O8' G8'))
                go_roundw
                case measure => simp [intOf]; omega
                case rel =>
                  have hre : rowCells (putP a (b.take k)) ++ rowCells [y] = rowCells (putP a (b.take (k + 1))) := by rw [SN.out, if_neg NE.out]; simp [rowCells]
                  have O9 := O8.out
                  rw [hre] at O9
                  exact ⟨k + 1, np + 1, c8, P8, rfl, by go_num, by omega, B8, ⟨O9⟩⟩
            · have NE := Asd.mk (show ¬ get a y.key = some y by rw [hgz]; intro e; injection e with e; exact hs (by rw [e]))
              have q1 : (z.stamp == y.stamp) = false := by simpa using hs
              clear hgz
              go_wp2_with fail
              go_quiet (fail)
              have B7 := Asd.mk (BW.out.trans (below_dn (B := w.heap.size) _ nq))
              have O7 := Asd.mk (OW.out.kept (gb_below (below_dn (B := w5.heap.size) w5 nq) none) (by cases (Value.slice P np cp).ownBlock <;> simp))
              have E0 : Asd ((w5.drewN nq).cell? ⟨bb, boff + k * 3, none⟩ = some (.string y.key)) := ⟨c0⟩
              have E1 : Asd ((w5.drewN nq).cell? ⟨bb, boff + k * 3 + 1, none⟩ = some (.int .i64 y.stamp)) := ⟨c1⟩
              have E2 : Asd ((w5.drewN nq).cell? ⟨bb, boff + k * 3 + 2, none⟩ = some (.string y.val)) := ⟨c2⟩
              clear c0 c1 c2 k0 k1 k2
              have SIZ := Asd.mk B7.out.size
              generalize w5.drewN nq = w7 at *
              have e0 : w7.cell? ⟨bb, boff + k * 3, none⟩ = some (.string y.key) := E0.out
              have e1 : w7.cell? ⟨bb, boff + k * 3 + 1, none⟩ = some (.int .i64 y.stamp) := E1.out
              have e2 : w7.cell? ⟨bb, boff + k * 3 + 2, none⟩ = some (.string y.val) := E2.out
              go_wp2_with (at_builtin; go_loud (refine wpList_append_mine (base := base) (own := w.heap.size) (n := np) (m := 1) (v := .slice P np cp) (xs := rowCells (putP a (b.take k))) (ys := rowCells [y]) rfl (.tmp 50) (.tmp 55) 22 rfl elt_row rfl rfl (O7.out.alloc _) (Rd.new_ rfl rfl) (row_one _) (by unfold maxLen; omega) (by omega) (Nat.le_trans SIZ.out (by simp)) ?_; intro v8 w8 O8' G8'; obtain ⟨P8, c8, rfl, _⟩ := Rd.of_own (base := base) O8'; have O8 := Asd.mk O8'; have B8 := Asd.mk ((B7.out.alloc B7.out.size (.cells #[.string y.key, .int .i64 y.stamp, .string y.val] 29)).grown G8' (Nat.le_trans B7.out.size (by simp)) (fun j hj => (O7.out.lt j hj).1)); clear O8' G8'))
              go_roundw
              case measure => simp [intOf]; omega
              case rel =>
                have hre : rowCells (putP a (b.take k)) ++ rowCells [y] = rowCells (putP a (b.take (k + 1))) := by rw [SN.out, if_neg NE.out]; simp [rowCells]
                have O9 := O8.out
                rw [hre] at O9
                exact ⟨k + 1, np + 1, c8, P8, rfl, by go_num, by omega, B8, ⟨O9⟩⟩
        · obtain rfl : k = m := by omega
          have hbt : b.take k = b := List.take_of_length_le (by have := NB.out; omega)
          have hO := OW.out
          rw [hbt] at hO
          have OP := Asd.mk hO
          clear hO hbt
          go_wp2_with fail
          go_loopw [12, 13] (fun s12 s13 wv => ∃ (k nd cd : Nat) (D : Option Addr), s12 = .slice D nd cd ∧ s13 = .int .i64 k ∧ k ≤ n ∧ Asd (Below w.heap.size w wv) ∧ Asd (wv.ownsRow w.heap.size 29 3 (.slice P np cp) np (rowCells (putP a b))) ∧ Asd (wv.ownsRow w.heap.size 9 1 (.slice D nd cd) nd (tCells (goneP (a.take k) b)))) (fun _ s13 _ => n - (intOf s13).toNat)
          case atStart => exact ⟨0, 0, 0, none, rfl, rfl, by omega, BW, OP, ⟨World.ownsRow_nil _ _ _ _⟩⟩
          case round =>
            clear OP OW BW
            obtain ⟨j, nd, cd, D, rfl, rfl, hj, BW, OP, OW⟩ := hrel
            by_cases hlt2 : j < n
            · have hil : j < a.length := by have := NA.out; omega
              obtain ⟨ab, aoff, rfl, _, _, c0, c1, c2⟩ := (RA.out.below BW.out).row hlt2
              have hcap : j < c := Nat.lt_of_lt_of_le hlt2 RA.out.cap
              generalize hy : a[j] = y at c0 c1 c2
              have hsn : goneP (a.take (j + 1)) b = goneP (a.take j) b ++ (if there y.key b = true then [] else [y.key]) := by
                rw [List.take_succ_eq_append_getElem hil, goneP_snoc, hy]
              have hnp : nd ≤ j := by
                have h1 := own_tlen OW.out
                have h2 := goneP_len (a.take j) b
                rw [List.length_take] at h2
                omega
              have SN := Asd.mk hsn
              have SIZ := Asd.mk BW.out.size
              clear hy hsn
              go_wp2_with fail
              refine (RefFind_calls (RB.out.below BW.out) (by omega) y.key).mono ?_
              rintro e w5 ⟨v, rfl, hw5, hv⟩
              subst hw5
              rcases hv with ⟨ht, rfl⟩ | ⟨i, hi, rfl, hik, ht⟩
              · have HT := Asd.mk ht
                clear ht
                go_wp2_with (at_builtin; go_loud (refine wpList_append_mine (base := base) (own := w.heap.size) (n := nd) (m := 1) (v := .slice D nd cd) (xs := tCells (goneP (a.take j) b)) (ys := tCells [y.key]) rfl (.tmp 71) (.tmp 77) 24 rfl elt_str rfl rfl (OW.out.alloc _) (Rd.new_ rfl rfl) (txt_one _) (by unfold maxLen; omega) (by omega) (Nat.le_trans SIZ.out (by simp)) ?_; intro v8 w8 O8' G8'; obtain ⟨P8, c8, rfl, _⟩ := Rd.of_own (base := base) O8'; have O8 := Asd.mk O8'; have P8' := Asd.mk (own_grownR (OP.out.alloc (.cells #[.string y.key] 9)) G8' (fun j hj => (own_ist (OW.out.alloc (.cells #[.string y.key] 9)) j hj).1) (by decide)); have B8 := Asd.mk ((BW.out.alloc BW.out.size (.cells #[.string y.key] 9)).grown G8' (Nat.le_trans BW.out.size (by simp)) (fun j hj => (OW.out.lt j hj).1)); clear O8' G8'))
                go_roundw
                case measure => simp [intOf]; omega
                case rel =>
                  have hre : tCells (goneP (a.take j) b) ++ tCells [y.key] = tCells (goneP (a.take (j + 1)) b) := by rw [SN.out, if_neg (by rw [HT.out]; simp)]; simp [tCells]
                  have O9 := O8.out
                  rw [hre] at O9
                  exact ⟨j + 1, nd + 1, c8, P8, rfl, by go_num, by omega, B8, P8', ⟨O9⟩⟩
              · have HT := Asd.mk ht
                have hng : decide ((i : Int) < 0) = false := decide_eq_false (by omega)
                have hng2 : ¬ (i : Int) < 0 := by omega
                clear ht hik
                go_wp2_with fail
                go_roundw
                case measure => simp [intOf]; omega
                case rel =>
                  have O9 := OW.out
                  rw [show goneP (a.take j) b = goneP (a.take (j + 1)) b from by rw [SN.out, if_pos HT.out]; simp] at O9
                  exact ⟨j + 1, nd, cd, D, rfl, by go_num, by omega, BW, OP, ⟨O9⟩⟩
            · obtain rfl : j = n := by omega
              have hat : a.take j = a := List.take_of_length_le (by have := NA.out; omega)
              have hO := OW.out
              rw [hat] at hO
              have OD := Asd.mk hO
              clear hO hat
              go_wp2_with fail
              go_ret3
              refine ⟨P, D, np, cp, nd, cd, by rw [HE.out]; rfl, BW.out, ?_, ?_⟩
              · rw [show putR a b = putP a b from if_pos HE.out]; exact OP.out
              · rw [show goneR a b = goneP a b from if_pos HE.out]; exact OD.out
    · have he : errP a b = wrongP b := by unfold errP; rw [if_pos h1]
      have PR := Asd.mk (show putR a b = [] from if_neg (by rw [he]; exact h2))
      have GR := Asd.mk (show goneR a b = [] from if_neg (by rw [he]; exact h2))
      rw [h1] at W1
      have HE := Asd.mk he
      have hv1 : (wrongP b == 0) = false := by simpa using h2
      have hv2 : (wrongP b != 0) = true := by simpa using h2
      clear h1 h2 he
      generalize wrongP b = E at *
      go_enter Try.func28, Try.ntmps28
      go_wp2_with fail
      refine W1.out.mono ?_
      rintro e w1 ⟨rfl, hb1⟩
      have B1 := Asd.mk hb1
      clear hb1
      go_wp2_with fail
      refine (W2.out _ B1.out).mono ?_
      rintro e w2 ⟨rfl, hb2⟩
      have B2 := Asd.mk (B1.out.trans (hb2.mono B1.out.size))
      clear hb2
      go_wp2_with fail
      go_ret3
      refine ⟨none, none, 0, 0, 0, 0, by rw [HE.out]; rfl, B2.out, ?_, ?_⟩
      · rw [PR.out]; exact World.ownsRow_nil _ _ _ _
      · rw [GR.out]; exact World.ownsRow_nil _ _ _ _
  · have he : errP a b = wrongP a := by unfold errP; rw [if_neg h1]
    have PR := Asd.mk (show putR a b = [] from if_neg (by rw [he]; exact h1))
    have GR := Asd.mk (show goneR a b = [] from if_neg (by rw [he]; exact h1))
    have HE := Asd.mk he
    have hv1 : (wrongP a == 0) = false := by simpa using h1
    have hv2 : (wrongP a != 0) = true := by simpa using h1
    clear h1 he
    generalize wrongP a = E at *
    go_enter Try.func28, Try.ntmps28
    go_wp2_with fail
    refine W1.out.mono ?_
    rintro e w1 ⟨rfl, hb1⟩
    have B1 := Asd.mk hb1
    clear hb1
    go_wp2_with fail
    go_ret3
    refine ⟨none, none, 0, 0, 0, 0, by rw [HE.out]; rfl, B1.out, ?_, ?_⟩
    · rw [PR.out]; exact World.ownsRow_nil _ _ _ _
    · rw [GR.out]; exact World.ownsRow_nil _ _ _ _
end Go.Proofs.Ytgiajfgeplekbaa

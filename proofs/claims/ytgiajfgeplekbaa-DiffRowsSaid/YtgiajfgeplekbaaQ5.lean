/- The document's Patch. -/
import Derived.Test.YtgiajfgeplekbaaQ3
import Derived.Test.YtgiajfgeplekbaaQ4
set_option linter.unusedVariables false
set_option linter.unusedSimpArgs false
namespace Go.Proofs.Ytgiajfgeplekbaa
open Go.RowKit
set_option maxHeartbeats 16000000 in
set_option maxRecDepth 100000 in
theorem RefPatch_calls {base : Nat} {w : World} {A B D : Option Addr} {n c m d q f : Nat} {a b : List Rw} {ds : List ByteArray} (ha : Rd base 29 w 3 A n c (rowCells a)) (hb : Rd base 29 w 3 B m d (rowCells b)) (hd : Rd base 9 w 1 D q f (tCells ds)) (hn : n ≤ 10000) (hm : m ≤ 10000) (hq : q ≤ 10000) :
    Calls Try.prog 30 #[.slice A n c, .slice B m d, .slice D q f] w (RefPatchPost w a b ds) := by
  have hcn := ha.count (enc := Rw.enc) (fun _ => rfl) (by omega)
  have hcm := hb.count (enc := Rw.enc) (fun _ => rfl) (by omega)
  have hcq := hd.count (enc := fun s => [.string s]) (fun _ => rfl) (by omega)
  have RA := Asd.mk ha
  have RB := Asd.mk hb
  have RD := Asd.mk hd
  have NA := Asd.mk hcn
  have NB := Asd.mk hcm
  have NQ := Asd.mk hcq
  have W1 := Asd.mk (RefWrong_calls ha (by omega))
  have W2 : Asd (∀ W : World, Below w.heap.size w W → Calls Try.prog 39 #[.slice B m d] W fun e w' => e = .returned (.int .i64 (wrongP b)) ∧ Below W.heap.size W w') := ⟨fun W hW => RefWrong_calls (hb.below hW) (by omega)⟩
  clear ha hb hd hcn hcm hcq
  by_cases h1 : wrongP a = 0
  · by_cases h2 : wrongP b = 0
    · have SA := Asd.mk (wrongP_sorted h1)
      have SB := Asd.mk (wrongP_sorted h2)
      have HE := Asd.mk (errP_zero h1 h2)
      rw [h1] at W1
      rw [h2] at W2
      clear h1 h2
      go_enter Try.func30, Try.ntmps30
      go_wp2_with fail
      refine W1.out.mono ?_
      rintro e w1 ⟨rfl, hb1⟩
      have B1 := Asd.mk hb1
      clear hb1
      go_wp2_with fail
      refine (W2.out _ B1.out).mono ?_
      rintro e w2 ⟨rfl, hb2⟩
      have B2 := Asd.mk (B1.out.trans (hb2.mono B1.out.size))
      clear hb2 B1 W1 W2
      go_wp2_with fail
      go_loopw [10] (fun s10 wr => ∃ i : Nat, s10 = .int .i64 i ∧ i ≤ q ∧ Asd (Below w.heap.size w wr) ∧ Asd (OkD b (ds.take i))) (fun s10 _ => q - (intOf s10).toNat)
      case atStart => exact ⟨0, rfl, by omega, B2, ⟨OkD.nil _⟩⟩
      case round =>
        clear B2
        obtain ⟨i, rfl, hi, BW, OK⟩ := hrel
        by_cases hlt : i < q
        · obtain ⟨db, dO, rfl, hdb, hil, hcs⟩ := (RD.out.below BW.out).at_enc (enc := fun s => [.string s]) (fun _ => rfl) (by omega) hlt
          have hcap : i < f := Nat.lt_of_lt_of_le hlt RD.out.cap
          have c0 : wr.cell? ⟨db, dO + i, none⟩ = some (.string ds[i]) := by simpa using hcs 0 _ rfl
          have hsn := fun h1 h2 => OK.out.snoc hil h1 h2
          have hno : OkD b ds → there ds[i] b = false := fun h => h.no _ (List.getElem_mem hil)
          have hup : OkD b ds → ∀ j (hj : j + 1 = i), klt (ds[j]'(by omega)) ds[i] := fun h j hj => List.pairwise_iff_getElem.1 h.up j i (by omega) hil (by omega)
          generalize ds[i] = x at c0 hsn hno hup
          have SN := Asd.mk hsn
          have NO := Asd.mk hno
          have UP := Asd.mk hup
          have FX : Asd (∀ W : World, Below w.heap.size wr W → Calls Try.prog 46 #[.slice B m d, .string x] W fun e w' => e = .returned (.int .i64 (findV b x)) ∧ w' = W) := ⟨fun W hW => RefFind_at (RB.out.below (BW.out.trans hW)) (by omega) SB.out x⟩
          clear hsn hno hup
          by_cases hi0 : 0 < i
          · obtain ⟨j, hj⟩ : ∃ j, j + 1 = i := ⟨i - 1, by omega⟩
            have hjl : j < ds.length := by omega
            have d1 : wr.cell? ⟨db, dO + j, none⟩ = some (.string ds[j]) := by
              obtain ⟨db', dO', hA', _, hjl', hcs'⟩ := (RD.out.below BW.out).at_enc (enc := fun s => [.string s]) (fun _ => rfl) (by omega) (show j < q by omega)
              cases hA'
              simpa using hcs' 0 _ rfl
            obtain ⟨y, hy⟩ : ∃ y, ds[j] = y := ⟨_, rfl⟩
            rw [hy] at d1
            have hupj : OkD b ds → klt y x := fun h => hy ▸ UP.out h j hj
            have UJ := Asd.mk hupj
            have SJ : Asd (klt y x → there x b = false → OkD b (ds.take (i + 1))) := ⟨fun h ht => SN.out ht (fun j' hj' => (by have e : j' = j := (by omega); subst e; rw [hy]; exact h))⟩
            have l1 := less_eq y x
            have hjq : j < q := by omega
            have hjf : j < f := by omega
            have hi1 : (0 : Int) < (i : Int) := by omega
            have hij : (i : Int) - 1 = (j : Int) := by omega
            have hw1 : wrap64 ((i : Int) - 1) = (j : Int) := by rw [hij]; exact (wrapIn (by omega)).1
            have hw2 : IntKind.i64.wrap ((i : Int) - 1) = (j : Int) := by rw [hij]; exact (wrapIn (by omega)).2
            have HJ := Asd.mk hj
            clear hij hupj hy hj hcs
            by_cases hl : klt y x
            · rw [decide_eq_true hl] at l1
              have HL := Asd.mk hl
              clear hl
              cases ht : there x b with
              | true =>
                have NK : Asd (¬ OkD b ds) := ⟨fun h => by have := NO.out h; rw [ht] at this; cases this⟩
                have hv1 := findV_there ht
                generalize findV b x = fv at *
                have hv2 : decide ((0 : Int) ≤ fv) = true := decide_eq_true hv1
                clear ht
                go_wp2_with fail
                go_quiet (first | (go_at_call 46; exact Calls.quiet_of_same (FX.out _ (below_dn _ _))))
                have B7 := Asd.mk (BW.out.trans (below_dn (B := w.heap.size) _ nq))
                clear c0 d1 hw1 hw2
                generalize wr.drewN nq = w7 at *
                go_wp2_with fail
                go_ret2
                exact ⟨none, 0, 0, [], 4, rfl, B7.out, World.ownsRow_nil _ _ _ _, .inr ⟨HE.out, .inl ⟨NK.out, rfl, rfl⟩⟩⟩
              | false =>
                have HT := Asd.mk ht
                have hv1 := findV_not ht
                rw [hv1] at FX
                clear ht hv1
                have OK2 := Asd.mk (SJ.out HL.out HT.out)
                go_wp2_with fail
                go_quiet (first | (go_at_call 46; exact Calls.quiet_of_same (FX.out _ (below_dn _ _))))
                have B7 := Asd.mk (BW.out.trans (below_dn (B := w.heap.size) _ nq))
                clear c0 d1 hw1 hw2
                generalize wr.drewN nq = w7 at *
                go_wp2_with fail
                go_roundw
                case measure => simp [intOf]; omega
                case rel => exact ⟨i + 1, by go_num, by omega, B7, OK2⟩
            · rw [decide_eq_false hl] at l1
              have NK : Asd (¬ OkD b ds) := ⟨fun h => hl (UJ.out h)⟩
              clear hl
              go_wp2_with fail
              go_quiet (fail)
              have B7 := Asd.mk (BW.out.trans (below_dn (B := w.heap.size) _ nq))
              clear c0 d1 hw1 hw2
              generalize wr.drewN nq = w7 at *
              go_wp2_with fail
              go_ret2
              exact ⟨none, 0, 0, [], 4, rfl, B7.out, World.ownsRow_nil _ _ _ _, .inr ⟨HE.out, .inl ⟨NK.out, rfl, rfl⟩⟩⟩
          · have hi1 : ¬ (0 : Int) < (i : Int) := by omega
            have hi2 : decide ((0 : Int) < (i : Int)) = false := decide_eq_false hi1
            have hi3 : decide (0 < i) = false := decide_eq_false hi0
            clear hcs
            cases ht : there x b with
            | true =>
              have NK : Asd (¬ OkD b ds) := ⟨fun h => by have := NO.out h; rw [ht] at this; cases this⟩
              have hv1 := findV_there ht
              generalize findV b x = fv at *
              have hv2 : decide ((0 : Int) ≤ fv) = true := decide_eq_true hv1
              clear ht
              go_wp2_with fail
              go_quiet (first | (go_at_call 46; exact Calls.quiet_of_same (FX.out _ (below_dn _ _))))
              have B7 := Asd.mk (BW.out.trans (below_dn (B := w.heap.size) _ nq))
              clear c0
              generalize wr.drewN nq = w7 at *
              go_wp2_with fail
              go_ret2
              exact ⟨none, 0, 0, [], 4, rfl, B7.out, World.ownsRow_nil _ _ _ _, .inr ⟨HE.out, .inl ⟨NK.out, rfl, rfl⟩⟩⟩
            | false =>
              have HT := Asd.mk ht
              have hv1 := findV_not ht
              rw [hv1] at FX
              clear ht hv1
              have OK2 := Asd.mk (SN.out HT.out (fun j hj => by omega))
              go_wp2_with fail
              go_quiet (first | (go_at_call 46; exact Calls.quiet_of_same (FX.out _ (below_dn _ _))))
              have B7 := Asd.mk (BW.out.trans (below_dn (B := w.heap.size) _ nq))
              clear c0
              generalize wr.drewN nq = w7 at *
              go_wp2_with fail
              go_roundw
              case measure => simp [intOf]; omega
              case rel => exact ⟨i + 1, by go_num, by omega, B7, OK2⟩
        · have OKD : Asd (OkD b ds) := ⟨by
            have h := OK.out
            rwa [List.take_of_length_le (by have := NQ.out; omega)] at h⟩
          clear OK
          go_wp2_with fail
          go_loopw [11, 12] (fun s11 s12 wv => ∃ (k no co : Nat) (Po : Option Addr), s11 = .slice Po no co ∧ s12 = .int .i64 k ∧ k ≤ n ∧ no ≤ k ∧ Asd (Below w.heap.size w wv) ∧ Asd (wv.ownsRow w.heap.size 29 3 (.slice Po no co) no (rowCells (leftP (a.take k) b ds)))) (fun _ s12 _ => n - (intOf s12).toNat)
          case atStart => exact ⟨0, 0, 0, none, rfl, rfl, by omega, by omega, BW, ⟨World.ownsRow_nil _ _ _ _⟩⟩
          case round =>
            clear BW
            obtain ⟨k, no, co, Po, rfl, rfl, hk, hno, BW, OW⟩ := hrel
            by_cases hlt2 : k < n
            · have hil : k < a.length := by have := NA.out; omega
              obtain ⟨ab, aoff, rfl, hab, _, c0, c1, c2⟩ := (RA.out.below BW.out).row hlt2
              have hcap : k < c := Nat.lt_of_lt_of_le hlt2 RA.out.cap
              generalize hy : a[k] = y at c0 c1 c2
              have hsn : leftP (a.take (k + 1)) b ds = leftP (a.take k) b ds ++ (if there y.key b = false ∧ y.key ∉ ds then [y] else []) := by
                rw [List.take_succ_eq_append_getElem hil, leftP_snoc, hy]
              have RY : Asd (∀ W : World, Below wr.heap.size wr W → W.cell? ⟨ab, aoff + k * 3, none⟩ = some (.string y.key) ∧ W.cell? ⟨ab, aoff + k * 3 + 1, none⟩ = some (.int .i64 y.stamp) ∧ W.cell? ⟨ab, aoff + k * 3 + 2, none⟩ = some (.string y.val)) := ⟨fun W hW => ⟨((bcell hW).1 ab _ hab).trans c0, ((bcell hW).1 ab _ hab).trans c1, ((bcell hW).1 ab _ hab).trans c2⟩⟩
              have SN := Asd.mk hsn
              clear hy hsn
              go_wp2_with fail
              refine (RefFind_at (RB.out.below BW.out) (by omega) SB.out y.key).mono ?_
              rintro e w5 ⟨rfl, hw5⟩
              subst hw5
              have hg : decide ((0 : Int) ≤ findV b y.key) = there y.key b := by
                cases ht : there y.key b with
                | true => exact decide_eq_true (findV_there ht)
                | false => rw [findV_not ht]; rfl
              have HG := Asd.mk hg
              clear hg c0 c1 c2
              generalize findV b y.key = fv at *
              go_wp2_with fail
              go_loopw [13, 14] (fun s13 s14 wv => ∃ (z : Bool) (t : Nat), s13 = .bool z ∧ s14 = .int .i64 t ∧ t ≤ q ∧ Asd (Below w5.heap.size w5 wv) ∧ Asd (z = (there y.key b || decide (y.key ∈ ds.take t)))) (fun _ s14 _ => q - (intOf s14).toNat)
              case atStart => exact ⟨_, 0, rfl, rfl, by omega, ⟨Below.refl _ _⟩, ⟨by rw [← HG.out]; simp⟩⟩
              case round =>
                obtain ⟨z, t, rfl, rfl, htq, BV, Z⟩ := hrel
                by_cases hlt3 : t < q
                · obtain ⟨db, dO, rfl, hdb, htl, hcs⟩ := (RD.out.below (BW.out.trans (BV.out.mono BW.out.size))).at_enc (enc := fun s => [.string s]) (fun _ => rfl) (by omega) hlt3
                  have hcapf : t < f := Nat.lt_of_lt_of_le hlt3 RD.out.cap
                  have d0 : wr.cell? ⟨db, dO + t, none⟩ = some (.string ds[t]) := by simpa using hcs 0 _ rfl
                  have hst : ds.take (t + 1) = ds.take t ++ [ds[t]] := List.take_succ_eq_append_getElem htl
                  obtain ⟨x, hx⟩ : ∃ x, ds[t] = x := ⟨_, rfl⟩
                  rw [hx] at d0 hst
                  have ST := Asd.mk hst
                  have c0 := (RY.out _ BV.out).1
                  clear hcs hst hx
                  generalize hzz : z = zz
                  have ZZ := Asd.mk hzz
                  clear hzz
                  cases zz
                  · have hq2 : (x.toList == y.key.toList) = decide (x = y.key) := same_eq _ _
                    by_cases hxy : x = y.key
                    · rw [decide_eq_true hxy] at hq2
                      have hte : x.toList = y.key.toList := by rw [hxy]
                      have XY := Asd.mk hxy
                      clear hxy
                      go_wp2_with fail
                      go_quiet (fail)
                      have B7 : Asd (Below w5.heap.size w5 (wr.drewN nq)) := ⟨BV.out.trans (below_dn _ _)⟩
                      clear d0 c0 hq2 hte
                      generalize wr.drewN nq = w7 at *
                      go_wp2_with fail
                      go_roundw
                      case measure => simp [intOf]; omega
                      case rel => exact ⟨true, t + 1, rfl, by go_num, by omega, B7, ⟨by rw [ST.out, XY.out]; simp⟩⟩
                    · rw [decide_eq_false hxy] at hq2
                      have hte : ¬ x.toList = y.key.toList := fun e => by rw [toList_eq, toList_eq] at e; exact hxy (key_ext e)
                      have XY := Asd.mk hxy
                      clear hxy
                      go_wp2_with fail
                      go_quiet (fail)
                      have B7 : Asd (Below w5.heap.size w5 (wr.drewN nq)) := ⟨BV.out.trans (below_dn _ _)⟩
                      clear d0 c0 hq2 hte
                      generalize wr.drewN nq = w7 at *
                      go_wp2_with fail
                      go_roundw
                      case measure => simp [intOf]; omega
                      case rel => exact ⟨false, t + 1, rfl, by go_num, by omega, B7, ⟨by have h := Z.out; rw [ZZ.out] at h; rw [ST.out]; have h2 := Bool.or_eq_false_iff.1 h.symm; rw [h2.1, decide_eq_false (fun h3 => by rcases List.mem_append.1 h3 with h4 | h4; exact of_decide_eq_false h2.2 h4; rw [List.mem_singleton] at h4; exact XY.out h4.symm)]; rfl⟩⟩
                  · go_wp2_with fail
                    go_quiet (fail)
                    have B7 : Asd (Below w5.heap.size w5 (wr.drewN nq)) := ⟨BV.out.trans (below_dn _ _)⟩
                    clear d0 c0
                    generalize wr.drewN nq = w7 at *
                    go_wp2_with fail
                    go_roundw
                    case measure => simp [intOf]; omega
                    case rel => exact ⟨true, t + 1, rfl, by go_num, by omega, B7, ⟨by have h := Z.out; rw [ZZ.out] at h; rw [ST.out]; cases hb : there y.key b; rw [hb] at h; have h2 := of_decide_eq_true (h.symm); rw [decide_eq_true (List.mem_append_left _ h2)]; rfl; rfl⟩⟩
                · have hte : t = q := by omega
                  have Z2 : Asd (z = (there y.key b || decide (y.key ∈ ds))) := ⟨by
                    have h := Z.out
                    rwa [List.take_of_length_le (by have := NQ.out; omega)] at h⟩
                  have B6 := Asd.mk (BW.out.trans (BV.out.mono BW.out.size))
                  have O6 := Asd.mk (OW.out.kept (gb_below BV.out none) (by cases (Value.slice Po no co).ownBlock <;> simp))
                  have SIZ := Asd.mk B6.out.size
                  obtain ⟨c0, c1, c2⟩ := RY.out _ BV.out
                  clear Z hte BW OW
                  generalize hzz : z = zz
                  have ZZ := Asd.mk hzz
                  clear hzz
                  cases zz
                  · as_aux_lemma =>
                    have hs2 : leftP (a.take (k + 1)) b ds = leftP (a.take k) b ds ++ [y] := by
                      have h := Z2.out
                      rw [ZZ.out] at h
                      have h2 := Bool.or_eq_false_iff.1 h.symm
                      rw [SN.out, if_pos ⟨h2.1, of_decide_eq_false h2.2⟩]
                    have S2 := Asd.mk hs2
                    clear hs2
                    go_wp2_with (at_builtin; go_loud (refine wpList_append_mine (base := base) (own := w.heap.size) (n := no) (m := 1) (v := .slice Po no co) (xs := rowCells (leftP (a.take k) b ds)) (ys := rowCells [y]) rfl (.tmp 92) (.tmp 97) 22 rfl elt_row rfl rfl (O6.out.alloc _) (Rd.new_ rfl rfl) (row_one _) (by unfold maxLen; omega) (by omega) (Nat.le_trans SIZ.out (by simp)) ?_; intro v8 w8 O8' G8'; obtain ⟨P8, c8, rfl, _⟩ := Rd.of_own (base := base) O8'; have O8 : Asd (w8.ownsRow w.heap.size 29 3 (.slice P8 (no + 1) c8) (no + 1) (rowCells (leftP (a.take (k + 1)) b ds))) := ⟨by have h := O8'; rw [S2.out]; unfold rowCells at h ⊢; rw [List.flatMap_append]; exact h⟩; have B8 := Asd.mk ((B6.out.alloc B6.out.size (.cells #[.string y.key, .int .i64 y.stamp, .string y.val] 29)).grown G8' (Nat.le_trans B6.out.size (by simp)) (fun j hj => (O6.out.lt j hj).1)); clear O8' G8'))
                    go_roundw
                    case measure => simp [intOf]; omega
                    case rel => exact ⟨k + 1, no + 1, c8, P8, rfl, by go_num, by omega, by omega, B8, O8⟩
                  · as_aux_lemma =>
                    have O8 : Asd (wr.ownsRow w.heap.size 29 3 (.slice Po no co) no (rowCells (leftP (a.take (k + 1)) b ds))) := ⟨by
                      have h := Z2.out
                      rw [ZZ.out] at h
                      rw [SN.out, if_neg (fun h2 => by rw [h2.1, decide_eq_false h2.2] at h; cases h), List.append_nil]; exact O6.out⟩
                    go_wp2_with fail
                    go_roundw
                    case measure => simp [intOf]; omega
                    case rel => exact ⟨k + 1, no, co, Po, rfl, by go_num, by omega, by omega, B6, O8⟩
            · have hke : k = n := by omega
              have O5 : Asd (wr.ownsRow w.heap.size 29 3 (.slice Po no co) no (rowCells (leftP a b ds))) := ⟨by
                have h := OW.out
                rwa [List.take_of_length_le (by have := NA.out; omega)] at h⟩
              have LS := Asd.mk (left_sorted (b := b) (ds := ds) SA.out)
              have LAP := Asd.mk (left_apart (a := a) (b := b) (ds := ds))
              have LM : Asd (∀ r, r ∈ leftP a b ds ↔ r ∈ leftP a b ds) := ⟨fun _ => Iff.rfl⟩
              obtain ⟨lf, hlf⟩ : ∃ lf, leftP a b ds = lf := ⟨_, rfl⟩
              have HLF := Asd.mk hlf
              rw [hlf] at O5 LS LAP
              have NL := Asd.mk (own_len O5.out).symm
              obtain ⟨P', c', e1, hXL⟩ := Rd.of_own (base := base) O5.out
              cases e1
              have XL := Asd.mk hXL
              clear hXL hlf hke OW LM
              obtain ⟨w5, hw5⟩ : ∃ w5, w5 = wr := ⟨_, rfl⟩
              subst hw5
              have B5 := Asd.mk BW.out
              clear BW
              have hno2 : no ≤ 10000 := by omega
              go_wp2_with fail
              go_loopw [15, 16, 17] (fun s15 s16 s17 wv => ∃ (i k nx cx : Nat) (Px : Option Addr) (out : List Rw), s15 = .slice Px nx cx ∧ s16 = .int .i64 i ∧ s17 = .int .i64 k ∧ i ≤ no ∧ k ≤ m ∧ nx ≤ i + k ∧ Asd (Below w5.heap.size w5 wv) ∧ Asd (wv.ownsRow w5.heap.size 29 3 (.slice Px nx cx) nx (rowCells out)) ∧ Asd (RMerge lf b i k out)) (fun _ s16 s17 _ => (no - (intOf s16).toNat) + (m - (intOf s17).toNat))
              case atStart => exact ⟨0, 0, 0, 0, none, [], rfl, rfl, rfl, by omega, by omega, by omega, ⟨Below.refl _ _⟩, ⟨World.ownsRow_nil _ _ _ _⟩, ⟨RMerge.start _ _⟩⟩
              case round =>
                obtain ⟨i, k, nx, cx, Px, out, rfl, rfl, rfl, hin, hkm, hnx, BM, OM, MI⟩ := hrel
                by_cases hi : i < no
                · by_cases hkk : k < m
                  · have XA0 := MI
                    obtain ⟨lb, lo, rfl, _, _, c0, c1, c2⟩ := (XL.out.below BM.out).row hi
                    have hcapa : i < co := Nat.lt_of_lt_of_le hi XL.out.cap
                    have hil : i < lf.length := by rw [NL.out]; exact hi
                    obtain ⟨x, hx⟩ : ∃ x, lf[i] = x := ⟨_, rfl⟩
                    rw [hx] at c0 c1 c2
                    have HX : Asd (∀ h : i < lf.length, lf[i] = x) := ⟨fun _ => hx⟩
                    have XM : Asd (x ∈ lf) := ⟨hx ▸ List.getElem_mem hil⟩
                    clear hx
                    obtain ⟨bb, bo, rfl, _, _, d0, d1, d2⟩ := ((RB.out.below B5.out).below BM.out).row hkk
                    have hcapb : k < d := Nat.lt_of_lt_of_le hkk RB.out.cap
                    have hkl : k < b.length := by rw [NB.out]; exact hkk
                    obtain ⟨y, hy⟩ : ∃ y, b[k] = y := ⟨_, rfl⟩
                    rw [hy] at d0 d1 d2
                    have HY : Asd (∀ h : k < b.length, b[k] = y) := ⟨fun _ => hy⟩
                    have YM : Asd (y ∈ b) := ⟨hy ▸ List.getElem_mem hkl⟩
                    clear hy
                    have hp5 : (i : Int) < (no : Int) := by omega
                    have hq1 : ((k : Int) == (m : Int)) = false := by rw [beq_eq_false_iff_ne]; omega
                    have l1 := less_eq x.key y.key
                    by_cases hl : klt x.key y.key
                    · as_aux_lemma =>
                      rw [decide_eq_true hl] at l1
                      have HL := Asd.mk hl
                      clear hl
                      go_wp2_with fail
                      go_quiet (fail)
                      have BM1 : Asd (Below w5.heap.size w5 (wr.drewN nq)) := ⟨BM.out.trans (below_dn _ _)⟩
                      have OM1 : Asd ((wr.drewN nq).ownsRow w5.heap.size 29 3 (.slice Px nx cx) nx (rowCells out)) := ⟨OM.out⟩
                      have E0 : Asd ((wr.drewN nq).cell? ⟨lb, lo + i * 3, none⟩ = some (.string x.key) ∧ (wr.drewN nq).cell? ⟨lb, lo + i * 3 + 1, none⟩ = some (.int .i64 x.stamp) ∧ (wr.drewN nq).cell? ⟨lb, lo + i * 3 + 2, none⟩ = some (.string x.val)) := ⟨c0, c1, c2⟩
                      have D0 : Asd ((wr.drewN nq).cell? ⟨bb, bo + k * 3, none⟩ = some (.string y.key) ∧ (wr.drewN nq).cell? ⟨bb, bo + k * 3 + 1, none⟩ = some (.int .i64 y.stamp) ∧ (wr.drewN nq).cell? ⟨bb, bo + k * 3 + 2, none⟩ = some (.string y.val)) := ⟨d0, d1, d2⟩
                      clear BM OM c0 c1 c2 d0 d1 d2 l1 hq1 hp5
                      generalize wr.drewN nq = w7 at *
                      obtain ⟨c0, c1, c2⟩ := E0.out
                      obtain ⟨d0, d1, d2⟩ := D0.out
                      have SIZ := Asd.mk BM1.out.size
                      go_wp2_with (at_builtin; go_loud (refine wpList_append_mine (base := base) (own := w5.heap.size) (n := nx) (m := 1) (v := .slice Px nx cx) (xs := rowCells out) (ys := rowCells [x]) rfl (.tmp 132) (.tmp 137) 22 rfl elt_row rfl rfl (OM1.out.alloc _) (Rd.new_ rfl rfl) (row_one _) (by unfold maxLen; omega) (by omega) (Nat.le_trans SIZ.out (by simp)) ?_; intro v8 w8 O8' G8'; obtain ⟨P8, c8, rfl, _⟩ := Rd.of_own (base := base) O8'; have O8 : Asd (w8.ownsRow w5.heap.size 29 3 (.slice P8 (nx + 1) c8) (nx + 1) (rowCells (out ++ [x]))) := ⟨by have h := O8'; unfold rowCells at h ⊢; rw [List.flatMap_append]; exact h⟩; have B8 := Asd.mk ((BM1.out.alloc BM1.out.size (.cells #[.string x.key, .int .i64 x.stamp, .string x.val] 29)).grown G8' (Nat.le_trans BM1.out.size (by simp)) (fun j hj => (OM1.out.lt j hj).1)); clear O8' G8'))
                      go_roundw
                      case measure => simp [intOf]; omega
                      case rel => exact ⟨i + 1, k, nx + 1, c8, P8, _, rfl, by go_num, by go_num, by omega, by omega, by omega, B8, O8, ⟨by have := MI.out.takeA LS.out (by rw [NL.out]; exact hi) (fun h => by rw [HX.out, HY.out]; exact HL.out); rw [HX.out] at this; exact this⟩⟩
                    · as_aux_lemma =>
                      rw [decide_eq_false hl] at l1
                      have HL : Asd (klt y.key x.key) := ⟨by
                        rcases klt_tri x.key y.key with h1 | h1 | h1
                        · exact absurd h1 hl
                        · exact absurd h1 (LAP.out x XM.out y YM.out)
                        · exact h1⟩
                      clear hl
                      go_wp2_with fail
                      go_quiet (fail)
                      have BM1 : Asd (Below w5.heap.size w5 (wr.drewN nq)) := ⟨BM.out.trans (below_dn _ _)⟩
                      have OM1 : Asd ((wr.drewN nq).ownsRow w5.heap.size 29 3 (.slice Px nx cx) nx (rowCells out)) := ⟨OM.out⟩
                      have E0 : Asd ((wr.drewN nq).cell? ⟨lb, lo + i * 3, none⟩ = some (.string x.key) ∧ (wr.drewN nq).cell? ⟨lb, lo + i * 3 + 1, none⟩ = some (.int .i64 x.stamp) ∧ (wr.drewN nq).cell? ⟨lb, lo + i * 3 + 2, none⟩ = some (.string x.val)) := ⟨c0, c1, c2⟩
                      have D0 : Asd ((wr.drewN nq).cell? ⟨bb, bo + k * 3, none⟩ = some (.string y.key) ∧ (wr.drewN nq).cell? ⟨bb, bo + k * 3 + 1, none⟩ = some (.int .i64 y.stamp) ∧ (wr.drewN nq).cell? ⟨bb, bo + k * 3 + 2, none⟩ = some (.string y.val)) := ⟨d0, d1, d2⟩
                      clear BM OM c0 c1 c2 d0 d1 d2 l1 hq1 hp5
                      generalize wr.drewN nq = w7 at *
                      obtain ⟨c0, c1, c2⟩ := E0.out
                      obtain ⟨d0, d1, d2⟩ := D0.out
                      have SIZ := Asd.mk BM1.out.size
                      go_wp2_with (at_builtin; go_loud (refine wpList_append_mine (base := base) (own := w5.heap.size) (n := nx) (m := 1) (v := .slice Px nx cx) (xs := rowCells out) (ys := rowCells [y]) rfl (.tmp 141) (.tmp 146) 22 rfl elt_row rfl rfl (OM1.out.alloc _) (Rd.new_ rfl rfl) (row_one _) (by unfold maxLen; omega) (by omega) (Nat.le_trans SIZ.out (by simp)) ?_; intro v8 w8 O8' G8'; obtain ⟨P8, c8, rfl, _⟩ := Rd.of_own (base := base) O8'; have O8 : Asd (w8.ownsRow w5.heap.size 29 3 (.slice P8 (nx + 1) c8) (nx + 1) (rowCells (out ++ [y]))) := ⟨by have h := O8'; unfold rowCells at h ⊢; rw [List.flatMap_append]; exact h⟩; have B8 := Asd.mk ((BM1.out.alloc BM1.out.size (.cells #[.string y.key, .int .i64 y.stamp, .string y.val] 29)).grown G8' (Nat.le_trans BM1.out.size (by simp)) (fun j hj => (OM1.out.lt j hj).1)); clear O8' G8'))
                      go_roundw
                      case measure => simp [intOf]; omega
                      case rel => exact ⟨i, k + 1, nx + 1, c8, P8, _, rfl, by go_num, by go_num, by omega, by omega, by omega, B8, O8, ⟨by have := MI.out.takeB SB.out (by rw [NB.out]; exact hkk) (fun h => by rw [HX.out, HY.out]; exact HL.out); rw [HY.out] at this; exact this⟩⟩
                  · as_aux_lemma =>
                    obtain ⟨lb, lo, rfl, _, _, c0, c1, c2⟩ := (XL.out.below BM.out).row hi
                    have hcapa : i < co := Nat.lt_of_lt_of_le hi XL.out.cap
                    have hil : i < lf.length := by rw [NL.out]; exact hi
                    obtain ⟨x, hx⟩ : ∃ x, lf[i] = x := ⟨_, rfl⟩
                    rw [hx] at c0 c1 c2
                    have HX : Asd (∀ h : i < lf.length, lf[i] = x) := ⟨fun _ => hx⟩
                    have XM : Asd (x ∈ lf) := ⟨hx ▸ List.getElem_mem hil⟩
                    clear hx
                    have hp5 : (i : Int) < (no : Int) := by omega
                    have hq1 : ((k : Int) == (m : Int)) = true := by rw [beq_iff_eq]; omega
                    have KN : Asd (k = m) := ⟨by omega⟩
                    go_wp2_with fail
                    go_quiet (fail)
                    have BM1 : Asd (Below w5.heap.size w5 (wr.drewN nq)) := ⟨BM.out.trans (below_dn _ _)⟩
                    have OM1 : Asd ((wr.drewN nq).ownsRow w5.heap.size 29 3 (.slice Px nx cx) nx (rowCells out)) := ⟨OM.out⟩
                    have E0 : Asd ((wr.drewN nq).cell? ⟨lb, lo + i * 3, none⟩ = some (.string x.key) ∧ (wr.drewN nq).cell? ⟨lb, lo + i * 3 + 1, none⟩ = some (.int .i64 x.stamp) ∧ (wr.drewN nq).cell? ⟨lb, lo + i * 3 + 2, none⟩ = some (.string x.val)) := ⟨c0, c1, c2⟩
                    clear BM OM c0 c1 c2  hq1 hp5
                    generalize wr.drewN nq = w7 at *
                    obtain ⟨c0, c1, c2⟩ := E0.out
                    have SIZ := Asd.mk BM1.out.size
                    go_wp2_with (at_builtin; go_loud (refine wpList_append_mine (base := base) (own := w5.heap.size) (n := nx) (m := 1) (v := .slice Px nx cx) (xs := rowCells out) (ys := rowCells [x]) rfl (.tmp 132) (.tmp 137) 22 rfl elt_row rfl rfl (OM1.out.alloc _) (Rd.new_ rfl rfl) (row_one _) (by unfold maxLen; omega) (by omega) (Nat.le_trans SIZ.out (by simp)) ?_; intro v8 w8 O8' G8'; obtain ⟨P8, c8, rfl, _⟩ := Rd.of_own (base := base) O8'; have O8 : Asd (w8.ownsRow w5.heap.size 29 3 (.slice P8 (nx + 1) c8) (nx + 1) (rowCells (out ++ [x]))) := ⟨by have h := O8'; unfold rowCells at h ⊢; rw [List.flatMap_append]; exact h⟩; have B8 := Asd.mk ((BM1.out.alloc BM1.out.size (.cells #[.string x.key, .int .i64 x.stamp, .string x.val] 29)).grown G8' (Nat.le_trans BM1.out.size (by simp)) (fun j hj => (OM1.out.lt j hj).1)); clear O8' G8'))
                    go_roundw
                    case measure => simp [intOf]; omega
                    case rel => exact ⟨i + 1, k, nx + 1, c8, P8, _, rfl, by go_num, by go_num, by omega, by omega, by omega, B8, O8, ⟨by have := MI.out.takeA LS.out (by rw [NL.out]; exact hi) (fun h => absurd h (by rw [NB.out, KN.out]; exact Nat.lt_irrefl _)); rw [HX.out] at this; exact this⟩⟩
                · by_cases hkk : k < m
                  · as_aux_lemma =>
                    obtain ⟨bb, bo, rfl, _, _, d0, d1, d2⟩ := ((RB.out.below B5.out).below BM.out).row hkk
                    have hcapb : k < d := Nat.lt_of_lt_of_le hkk RB.out.cap
                    have hkl : k < b.length := by rw [NB.out]; exact hkk
                    obtain ⟨y, hy⟩ : ∃ y, b[k] = y := ⟨_, rfl⟩
                    rw [hy] at d0 d1 d2
                    have HY : Asd (∀ h : k < b.length, b[k] = y) := ⟨fun _ => hy⟩
                    have YM : Asd (y ∈ b) := ⟨hy ▸ List.getElem_mem hkl⟩
                    clear hy
                    have hp5 : decide ((i : Int) < (no : Int)) = false := decide_eq_false (by omega)
                    have hp6 : ¬ (i : Int) < (no : Int) := by omega
                    have hs5 : (k : Int) < (m : Int) := by omega
                    have hq1 : ((k : Int) == (m : Int)) = false := by rw [beq_eq_false_iff_ne]; omega
                    have KN : Asd (i = no) := ⟨by omega⟩
                    go_wp2_with fail
                    go_quiet (fail)
                    have BM1 : Asd (Below w5.heap.size w5 (wr.drewN nq)) := ⟨BM.out.trans (below_dn _ _)⟩
                    have OM1 : Asd ((wr.drewN nq).ownsRow w5.heap.size 29 3 (.slice Px nx cx) nx (rowCells out)) := ⟨OM.out⟩
                    have D0 : Asd ((wr.drewN nq).cell? ⟨bb, bo + k * 3, none⟩ = some (.string y.key) ∧ (wr.drewN nq).cell? ⟨bb, bo + k * 3 + 1, none⟩ = some (.int .i64 y.stamp) ∧ (wr.drewN nq).cell? ⟨bb, bo + k * 3 + 2, none⟩ = some (.string y.val)) := ⟨d0, d1, d2⟩
                    clear BM OM  d0 d1 d2 hq1 hp5 hp6 hs5
                    generalize wr.drewN nq = w7 at *
                    obtain ⟨d0, d1, d2⟩ := D0.out
                    have SIZ := Asd.mk BM1.out.size
                    go_wp2_with (at_builtin; go_loud (refine wpList_append_mine (base := base) (own := w5.heap.size) (n := nx) (m := 1) (v := .slice Px nx cx) (xs := rowCells out) (ys := rowCells [y]) rfl (.tmp 141) (.tmp 146) 22 rfl elt_row rfl rfl (OM1.out.alloc _) (Rd.new_ rfl rfl) (row_one _) (by unfold maxLen; omega) (by omega) (Nat.le_trans SIZ.out (by simp)) ?_; intro v8 w8 O8' G8'; obtain ⟨P8, c8, rfl, _⟩ := Rd.of_own (base := base) O8'; have O8 : Asd (w8.ownsRow w5.heap.size 29 3 (.slice P8 (nx + 1) c8) (nx + 1) (rowCells (out ++ [y]))) := ⟨by have h := O8'; unfold rowCells at h ⊢; rw [List.flatMap_append]; exact h⟩; have B8 := Asd.mk ((BM1.out.alloc BM1.out.size (.cells #[.string y.key, .int .i64 y.stamp, .string y.val] 29)).grown G8' (Nat.le_trans BM1.out.size (by simp)) (fun j hj => (OM1.out.lt j hj).1)); clear O8' G8'))
                    go_roundw
                    case measure => simp [intOf]; omega
                    case rel => exact ⟨i, k + 1, nx + 1, c8, P8, _, rfl, by go_num, by go_num, by omega, by omega, by omega, B8, O8, ⟨by have := MI.out.takeB SB.out (by rw [NB.out]; exact hkk) (fun h => absurd h (by rw [NL.out, KN.out]; exact Nat.lt_irrefl _)); rw [HY.out] at this; exact this⟩⟩
                  · as_aux_lemma =>
                    have hie : i = no := by omega
                    have hke : k = m := by omega
                    have DN : Asd (Sorted out ∧ ∀ r, r ∈ out ↔ r ∈ leftP a b ds ∨ r ∈ b) := ⟨⟨MI.out.srt, fun r => by
                      have h := MI.out.mem r
                      rw [List.take_of_length_le (by rw [NL.out]; omega), List.take_of_length_le (by rw [NB.out]; omega)] at h
                      rw [h, HLF.out]⟩⟩
                    have hp5 : decide ((i : Int) < (no : Int)) = false := decide_eq_false (by omega)
                    have hp6 : ¬ (i : Int) < (no : Int) := by omega
                    have hs5 : decide ((k : Int) < (m : Int)) = false := decide_eq_false (by omega)
                    have hs6 : ¬ (k : Int) < (m : Int) := by omega
                    clear hie hke
                    go_wp2_with fail
                    go_ret2
                    exact ⟨Px, nx, cx, out, 0, rfl, B5.out.trans (BM.out.mono B5.out.size), own_le' OM.out B5.out.size, .inr ⟨HE.out, .inr ⟨OKD.out, rfl, DN.out⟩⟩⟩
    · have he : errP a b = wrongP b := by unfold errP; rw [if_pos h1]
      rw [h1] at W1
      have HE := Asd.mk he
      have H2 := Asd.mk h2
      have hv1 : (wrongP b == 0) = false := by simpa using h2
      have hv2 : (wrongP b != 0) = true := by simpa using h2
      clear h1 h2 he
      generalize wrongP b = E at *
      go_enter Try.func30, Try.ntmps30
      go_wp2_with fail
      refine W1.out.mono ?_
      rintro e w1 ⟨rfl, hb1⟩
      have B1 := Asd.mk hb1
      clear hb1
      go_wp2_with fail
      refine (W2.out _ B1.out).mono ?_
      rintro e w2 ⟨rfl, hb2⟩
      have B2 := Asd.mk (B1.out.trans (hb2.mono B1.out.size))
      clear hb2
      go_wp2_with fail
      go_ret2
      exact ⟨none, 0, 0, [], E, rfl, B2.out, World.ownsRow_nil _ _ _ _, .inl ⟨by rw [HE.out]; exact H2.out, HE.out.symm, rfl⟩⟩
  · have he : errP a b = wrongP a := by unfold errP; rw [if_neg h1]
    have HE := Asd.mk he
    have H2 := Asd.mk h1
    have hv1 : (wrongP a == 0) = false := by simpa using h1
    have hv2 : (wrongP a != 0) = true := by simpa using h1
    clear h1 he
    generalize wrongP a = E at *
    go_enter Try.func30, Try.ntmps30
    go_wp2_with fail
    refine W1.out.mono ?_
    rintro e w1 ⟨rfl, hb1⟩
    have B1 := Asd.mk hb1
    clear hb1
    go_wp2_with fail
    go_ret2
    exact ⟨none, 0, 0, [], E, rfl, B1.out, World.ownsRow_nil _ _ _ _, .inl ⟨by rw [HE.out]; exact H2.out, HE.out.symm, rfl⟩⟩
end Go.Proofs.Ytgiajfgeplekbaa

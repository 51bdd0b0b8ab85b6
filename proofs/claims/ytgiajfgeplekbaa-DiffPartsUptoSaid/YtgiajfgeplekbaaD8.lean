/- diff.Diff, the walk. -/
import Derived.Test.YtgiajfgeplekbaaD6
set_option linter.unusedVariables false
set_option linter.unusedSimpArgs false
namespace Go.Proofs.Ytgiajfgeplekbaa
open Go.RowKit

def tCells (l : List ByteArray) : List Value := l.flatMap fun s => [.string s]
theorem elt_str : Elt Try.prog 24 9 1 16 := Elt.mk' Try.underlying24 (z := .string ⟨#[]⟩) (by kernel_rfl) rfl (by omega)
theorem txt_one (l : List ByteArray) : ∀ u ∈ tCells l, u.oneCell' = true := by
  intro u hu
  unfold tCells at hu
  obtain ⟨r, _, hr⟩ := List.mem_flatMap.1 hu
  simp only [List.mem_cons, List.not_mem_nil, or_false] at hr
  subst hr
  rfl
def errP (a b : List Rw) : Int := if wrongP a = 0 then wrongP b else wrongP a
def putP (a b : List Rw) : List Rw := b.filter fun r => decide (get a r.key ≠ some r)
def goneP (a b : List Rw) : List ByteArray := (a.filter fun r => !there r.key b).map Rw.key
def putR (a b : List Rw) : List Rw := if errP a b = 0 then putP a b else []
def goneR (a b : List Rw) : List ByteArray := if errP a b = 0 then goneP a b else []
theorem putP_snoc (a b : List Rw) (r : Rw) : putP a (b ++ [r]) = putP a b ++ (if get a r.key = some r then [] else [r]) := by
  unfold putP
  rw [List.filter_append]
  by_cases h : get a r.key = some r <;> simp [h]
theorem goneP_snoc (a b : List Rw) (r : Rw) : goneP (a ++ [r]) b = goneP a b ++ (if there r.key b = true then [] else [r.key]) := by
  unfold goneP
  rw [List.filter_append]
  by_cases h : there r.key b = true <;> simp [h]
theorem wrongP_sorted {l : List Rw} (h : wrongP l = 0) : Sorted l := by
  unfold wrongP at h
  split at h
  · cases h
  · split at h
    · assumption
    · cases h
def DiffPost (base : Nat) (w : World) (a b : List Rw) (e : Ending) (w' : World) : Prop :=
  ∃ (P D : Option Addr) (np cp nd cd : Nat), e = .returned (.tuple #[.slice P np cp, .slice D nd cd, .int .i64 (errP a b)]) ∧ Below w.heap.size w w' ∧ w'.ownsRow w.heap.size 29 3 (.slice P np cp) np (rowCells (putR a b)) ∧
    w'.ownsRow w.heap.size 9 1 (.slice D nd cd) nd (tCells (goneR a b))
theorem own_len {w : World} {b e n : Nat} {v : Value} {l : List Rw} (h : w.ownsRow b e 3 v n (rowCells l)) : n = l.length := by
  have h1 := h.1
  rw [show (rowCells l).length = l.length * 3 from flat_len Rw.enc 3 (fun _ => rfl) l] at h1
  omega
theorem own_tlen {w : World} {b e n : Nat} {v : Value} {l : List ByteArray} (h : w.ownsRow b e 1 v n (tCells l)) : n = l.length := by
  have h1 := h.1
  rw [show (tCells l).length = l.length * 1 from flat_len (fun s => [Value.string s]) 1 (fun _ => rfl) l] at h1
  omega

set_option maxHeartbeats 16000000 in
set_option maxRecDepth 100000 in
theorem Diff_calls {base : Nat} {w : World} {A B : Option Addr} {n c m d : Nat} {a b : List Rw} (ha : Rd base 29 w 3 A n c (rowCells a)) (hb : Rd base 29 w 3 B m d (rowCells b)) (hn : n ≤ 1000000) (hm : m ≤ 1000000) (hbs : base ≤ w.heap.size) :
    Calls Try.prog 11 #[.slice A n c, .slice B m d] w (DiffPost base w a b) := by
  have hcn := ha.count (enc := Rw.enc) (fun _ => rfl) (by omega)
  have hcm := hb.count (enc := Rw.enc) (fun _ => rfl) (by omega)
  have RA := Asd.mk ha
  have RB := Asd.mk hb
  have NA := Asd.mk hcn
  have NB := Asd.mk hcm
  clear ha hb hcn hcm
  go_enter Try.func11, Try.ntmps11
  go_wp2_with fail
  refine (wrong_calls RA.out hn hbs).mono ?_
  rintro e w1 ⟨rfl, hb1⟩
  have B1 := Asd.mk hb1
  clear hb1
  go_wp2_with fail
  refine (wrong_calls (RB.out.below B1.out) hm (Nat.le_trans hbs B1.out.size)).mono ?_
  rintro e w2 ⟨rfl, hb2⟩
  have B2 := Asd.mk (B1.out.trans (hb2.mono B1.out.size))
  clear hb2
  go_wp2_with fail
  refine (Or2_calls _ _ _ _ (two_errs w2 (wrongP a) (wrongP b)).1 (two_errs w2 (wrongP a) (wrongP b)).2).mono ?_
  rintro e w3 ⟨rfl, hb3⟩
  have B3 := Asd.mk (B2.out.trans ((((Below.refl w2.heap.size w2).alloc (Nat.le_refl _) (.cells #[.int .i64 (wrongP a), .int .i64 (wrongP b)] 25)).trans (hb3.mono (by simp))).mono B2.out.size))
  clear hb3
  have herr : (if wrongP a = 0 then wrongP b else wrongP a) = errP a b := rfl
  rw [herr]
  clear herr
  by_cases he : errP a b = 0
  · have hsa : Sorted a ∧ Sorted b := by
      unfold errP at he
      split at he
      · exact ⟨wrongP_sorted (by assumption), wrongP_sorted he⟩
      · contradiction
    have SA := Asd.mk hsa.1
    have SB := Asd.mk hsa.2
    have HE := Asd.mk he
    rw [he]
    clear he hsa
    go_wp2_with fail
    go_loopw [4, 27] (fun s4 s27 wr => ∃ (k np cp : Nat) (P : Option Addr), s4 = .slice P np cp ∧ s27 = .int .i64 k ∧ k ≤ m ∧ Asd (Below w.heap.size w wr) ∧ Asd (wr.ownsRow w.heap.size 29 3 (.slice P np cp) np (rowCells (putP a (b.take k))))) (fun _ s27 _ => m - (intOf s27).toNat)
    case atStart => exact ⟨0, 0, 0, none, rfl, rfl, by omega, B3, ⟨World.ownsRow_nil _ _ _ _⟩⟩
    case round =>
      obtain ⟨k, np, cp, P, rfl, rfl, hk, BW, OW⟩ := hrel
      by_cases hlt : k < m
      · have hil : k < b.length := by have := NB.out; omega
        obtain ⟨bb, boff, rfl, _, _, c0, c1, c2⟩ := (RB.out.below BW.out).row hlt
        generalize hy : b[k] = y at c0 c1 c2
        have hsn : putP a (b.take (k + 1)) = putP a (b.take k) ++ (if get a y.key = some y then [] else [y]) := by
          rw [List.take_succ_eq_append_getElem hil, putP_snoc, hy]
        have hnp : np ≤ k := by
          have h1 := own_len OW.out
          have h2 : (putP a (b.take k)).length ≤ (b.take k).length := List.length_filter_le _ _
          rw [List.length_take] at h2
          omega
        have SN := Asd.mk hsn
        have hal : Below wr.heap.size wr (wr.alloc (.cells #[.string y.key, .int .i64 y.stamp, .string y.val] 29)) := (Below.refl _ _).alloc (Nat.le_refl _) _
        have B4 := Asd.mk (BW.out.trans (hal.mono BW.out.size))
        have O4 := Asd.mk (OW.out.alloc (.cells #[.string y.key, .int .i64 y.stamp, .string y.val] 29))
        have X4 : Asd (Rd base 29 (wr.alloc (.cells #[.string y.key, .int .i64 y.stamp, .string y.val] 29)) 3 (some ⟨wr.heap.size, 0, none⟩) 1 1 (rowCells [y])) := ⟨Rd.new_ rfl rfl⟩
        have hl4 : wr.heap.size < (wr.alloc (.cells #[.string y.key, .int .i64 y.stamp, .string y.val] 29)).heap.size := by simp
        clear hy hsn hal
        go_wp2_with fail
        generalize (wr.alloc (.cells #[.string y.key, .int .i64 y.stamp, .string y.val] 29)) = w4 at B4 O4 X4 hl4 ⊢
        generalize wr.heap.size = rb at X4 hl4 ⊢
        refine (find_calls (RA.out.below B4.out) hn SA.out y.key).mono ?_
        rintro e w5 ⟨rfl, hb5⟩
        have B5 := Asd.mk (B4.out.trans (hb5.mono B4.out.size))
        have O5 := Asd.mk (O4.out.kept (gb_below hb5 none) (by cases (Value.slice P np cp).ownBlock <;> simp))
        have X5 := Asd.mk (X4.out.below hb5)
        have hl5 : rb < w5.heap.size := Nat.lt_of_lt_of_le hl4 hb5.size
        clear hb5 c0 c1 c2
        obtain ⟨d0, d1, d2⟩ := X5.out.row1
        cases ht : there y.key a with
        | false =>
          have hg : get a y.key = none := by
            rw [there_get] at ht
            cases hg : get a y.key with
            | none => rfl
            | some z => rw [hg] at ht; cases ht
          have NE := Asd.mk (show ¬ get a y.key = some y by rw [hg]; simp)
          clear hg ht
          go_wp2_with fail
          go_quiet (fail)
          have hdn := below_dn (B := w5.heap.size) w5 nq
          have B7 := Asd.mk (B5.out.trans (hdn.mono B5.out.size))
          have O7 := Asd.mk (O5.out.kept (gb_below hdn none) (by cases (Value.slice P np cp).ownBlock <;> simp))
          have X7 := Asd.mk (X5.out.below hdn)
          have hl7 : rb < (w5.drewN nq).heap.size := hl5
          clear hdn d0 d1 d2
          generalize w5.drewN nq = w7 at *
          obtain ⟨d0, d1, d2⟩ := X7.out.row1
          go_wp2_with (at_builtin; refine wpList_append_mine (base := base) (own := w.heap.size) (n := np) (m := 1) (v := .slice P np cp) (xs := rowCells (putP a (b.take k))) (ys := rowCells [y]) rfl (.tmp 48) (.tmp 50) 22 rfl elt_row rfl rfl (O7.out.alloc _) (Rd.new_ rfl rfl) (row_one _) (by unfold maxLen; omega) (by omega) (Nat.le_trans B7.out.size (by simp)) ?_; intro v8 w8 O8' G8'; obtain ⟨P8, c8, rfl, _⟩ := Rd.of_own (base := base) O8'; have O8 := Asd.mk O8'; have B8 := Asd.mk ((B7.out.alloc B7.out.size (.cells #[.string y.key, .int .i64 y.stamp, .string y.val] 29)).grown G8' (Nat.le_trans B7.out.size (by simp)) (fun j hj => (O7.out.lt j hj).1)); clear O8' G8')
          go_roundw
          case measure => simp [intOf]; omega
          case rel =>
            have hre : rowCells (putP a (b.take k)) ++ rowCells [y] = rowCells (putP a (b.take (k + 1))) := by rw [SN.out, if_neg NE.out]; simp [rowCells]
            have O9 := O8.out
            rw [hre] at O9
            exact ⟨k + 1, np + 1, c8, P8, rfl, by go_num, by omega, B8, ⟨O9⟩⟩
        | true =>
          obtain ⟨hpl, hpk⟩ := pos_lt SA.out ht
          have hpn : pos y.key a < n := by have := NA.out; omega
          obtain ⟨ab, aoff, rfl, _, hal, k0, k1, k2⟩ := (RA.out.below B5.out).row (i := pos y.key a) hpn
          have hbd : (0 : Int) ≤ (pos y.key a : Int) ∧ (pos y.key a : Int) < (n : Int) := by omega
          rw [rowAt_eq hal] at hpk
          have hgz : get a y.key = some a[pos y.key a] := (get_some SA.out).2 ⟨List.getElem_mem hal, hpk⟩
          generalize a[pos y.key a] = z at k0 k1 k2 hpk hgz
          generalize pos y.key a = at_ at *
          have ne_list : ∀ {a b : ByteArray}, a ≠ b → (a.toList == b.toList) = false ∧ ¬ a.toList = b.toList := fun {a b} h => ⟨by rw [same_eq]; exact decide_eq_false h, fun e => h (by rw [toList_eq, toList_eq] at e; exact key_ext e)⟩
          have NL := Asd.mk @ne_list
          rw [hpk] at k0
          clear ne_list ht
          by_cases hs : z.stamp = y.stamp
          · by_cases hv : z.val = y.val
            · have hzy : z = y := by cases z; cases y; simp_all
              have EQ := Asd.mk (show get a y.key = some y by rw [hgz, hzy])
              rw [hs] at k1
              rw [hv] at k2
              clear hgz hzy hs hv
              go_wp2_with fail
              go_quiet (fail)
              have hdn := below_dn (B := w5.heap.size) w5 nq
              have B7 := Asd.mk (B5.out.trans (hdn.mono B5.out.size))
              have O7 := Asd.mk (O5.out.kept (gb_below hdn none) (by cases (Value.slice P np cp).ownBlock <;> simp))
              have X7 := Asd.mk (X5.out.below hdn)
              have hl7 : rb < (w5.drewN nq).heap.size := hl5
              clear hdn d0 d1 d2
              generalize w5.drewN nq = w7 at *
              go_wp2_with fail
              go_roundw
              case measure => simp [intOf]; omega
              case rel =>
                have O9 := O7.out
                rw [show putP a (b.take k) = putP a (b.take (k + 1)) from by rw [SN.out, if_pos EQ.out]; simp] at O9
                exact ⟨k + 1, np, cp, P, rfl, by go_num, by omega, B7, ⟨O9⟩⟩
            · have NE := Asd.mk (show ¬ get a y.key = some y by rw [hgz]; intro e; injection e with e; exact hv (by rw [e]))
              obtain ⟨q1, q2⟩ := NL.out hv
              rw [hs] at k1
              clear hgz hs hv
              go_wp2_with fail
              go_quiet (fail)
              have hdn := below_dn (B := w5.heap.size) w5 nq
              have B7 := Asd.mk (B5.out.trans (hdn.mono B5.out.size))
              have O7 := Asd.mk (O5.out.kept (gb_below hdn none) (by cases (Value.slice P np cp).ownBlock <;> simp))
              have X7 := Asd.mk (X5.out.below hdn)
              have hl7 : rb < (w5.drewN nq).heap.size := hl5
              clear hdn d0 d1 d2
              generalize w5.drewN nq = w7 at *
              obtain ⟨d0, d1, d2⟩ := X7.out.row1
              go_wp2_with (at_builtin; refine wpList_append_mine (base := base) (own := w.heap.size) (n := np) (m := 1) (v := .slice P np cp) (xs := rowCells (putP a (b.take k))) (ys := rowCells [y]) rfl (.tmp 48) (.tmp 50) 22 rfl elt_row rfl rfl (O7.out.alloc _) (Rd.new_ rfl rfl) (row_one _) (by unfold maxLen; omega) (by omega) (Nat.le_trans B7.out.size (by simp)) ?_; intro v8 w8 O8' G8'; obtain ⟨P8, c8, rfl, _⟩ := Rd.of_own (base := base) O8'; have O8 := Asd.mk O8'; have B8 := Asd.mk ((B7.out.alloc B7.out.size (.cells #[.string y.key, .int .i64 y.stamp, .string y.val] 29)).grown G8' (Nat.le_trans B7.out.size (by simp)) (fun j hj => (O7.out.lt j hj).1)); clear O8' G8')
              go_roundw
              case measure => simp [intOf]; omega
              case rel =>
                have hre : rowCells (putP a (b.take k)) ++ rowCells [y] = rowCells (putP a (b.take (k + 1))) := by rw [SN.out, if_neg NE.out]; simp [rowCells]
                have O9 := O8.out
                rw [hre] at O9
                exact ⟨k + 1, np + 1, c8, P8, rfl, by go_num, by omega, B8, ⟨O9⟩⟩
          · have NE := Asd.mk (show ¬ get a y.key = some y by rw [hgz]; intro e; injection e with e; exact hs (by rw [e]))
            have q1 : (z.stamp == y.stamp) = false := by simpa using hs
            clear hgz
            go_wp2_with fail
            go_quiet (fail)
            have hdn := below_dn (B := w5.heap.size) w5 nq
            have B7 := Asd.mk (B5.out.trans (hdn.mono B5.out.size))
            have O7 := Asd.mk (O5.out.kept (gb_below hdn none) (by cases (Value.slice P np cp).ownBlock <;> simp))
            have X7 := Asd.mk (X5.out.below hdn)
            have hl7 : rb < (w5.drewN nq).heap.size := hl5
            clear hdn d0 d1 d2
            generalize w5.drewN nq = w7 at *
            obtain ⟨d0, d1, d2⟩ := X7.out.row1
            go_wp2_with (at_builtin; refine wpList_append_mine (base := base) (own := w.heap.size) (n := np) (m := 1) (v := .slice P np cp) (xs := rowCells (putP a (b.take k))) (ys := rowCells [y]) rfl (.tmp 48) (.tmp 50) 22 rfl elt_row rfl rfl (O7.out.alloc _) (Rd.new_ rfl rfl) (row_one _) (by unfold maxLen; omega) (by omega) (Nat.le_trans B7.out.size (by simp)) ?_; intro v8 w8 O8' G8'; obtain ⟨P8, c8, rfl, _⟩ := Rd.of_own (base := base) O8'; have O8 := Asd.mk O8'; have B8 := Asd.mk ((B7.out.alloc B7.out.size (.cells #[.string y.key, .int .i64 y.stamp, .string y.val] 29)).grown G8' (Nat.le_trans B7.out.size (by simp)) (fun j hj => (O7.out.lt j hj).1)); clear O8' G8')
            go_roundw
            case measure => simp [intOf]; omega
            case rel =>
              have hre : rowCells (putP a (b.take k)) ++ rowCells [y] = rowCells (putP a (b.take (k + 1))) := by rw [SN.out, if_neg NE.out]; simp [rowCells]
              have O9 := O8.out
              rw [hre] at O9
              exact ⟨k + 1, np + 1, c8, P8, rfl, by go_num, by omega, B8, ⟨O9⟩⟩
      · obtain rfl : k = m := by omega
        have hbt : b.take k = b := List.take_of_length_le (by have := NB.out; omega)
        have hO := OW.out
        rw [hbt] at hO
        have OP := Asd.mk hO
        clear hO hbt
        go_wp2_with fail
        go_loopw [5, 55] (fun s5 s55 wr => ∃ (k nd cd : Nat) (D : Option Addr), s5 = .slice D nd cd ∧ s55 = .int .i64 k ∧ k ≤ n ∧ Asd (Below w.heap.size w wr) ∧ Asd (wr.ownsRow w.heap.size 29 3 (.slice P np cp) np (rowCells (putP a b))) ∧ Asd (wr.ownsRow w.heap.size 9 1 (.slice D nd cd) nd (tCells (goneP (a.take k) b)))) (fun _ s55 _ => n - (intOf s55).toNat)
        case atStart => exact ⟨0, 0, 0, none, rfl, rfl, by omega, BW, OP, ⟨World.ownsRow_nil _ _ _ _⟩⟩
        case round =>
          clear OP OW BW
          obtain ⟨j, nd, cd, D, rfl, rfl, hj, BW, OP, OW⟩ := hrel
          by_cases hlt2 : j < n
          · have hil : j < a.length := by have := NA.out; omega
            obtain ⟨ab, aoff, rfl, _, _, c0, c1, c2⟩ := (RA.out.below BW.out).row hlt2
            generalize hy : a[j] = y at c0 c1 c2
            have hsn : goneP (a.take (j + 1)) b = goneP (a.take j) b ++ (if there y.key b = true then [] else [y.key]) := by
              rw [List.take_succ_eq_append_getElem hil, goneP_snoc, hy]
            have hnp : nd ≤ j := by
              have h1 := own_tlen OW.out
              have h2 : (goneP (a.take j) b).length ≤ (a.take j).length := by
                unfold goneP
                rw [List.length_map]
                exact List.length_filter_le _ _
              rw [List.length_take] at h2
              omega
            have SN := Asd.mk hsn
            have hal : Below wr.heap.size wr (wr.alloc (.cells #[.string y.key, .int .i64 y.stamp, .string y.val] 29)) := (Below.refl _ _).alloc (Nat.le_refl _) _
            have B4 := Asd.mk (BW.out.trans (hal.mono BW.out.size))
            have O4 := Asd.mk (OW.out.alloc (.cells #[.string y.key, .int .i64 y.stamp, .string y.val] 29))
            have P4 := Asd.mk (OP.out.alloc (.cells #[.string y.key, .int .i64 y.stamp, .string y.val] 29))
            have X4 : Asd (Rd base 29 (wr.alloc (.cells #[.string y.key, .int .i64 y.stamp, .string y.val] 29)) 3 (some ⟨wr.heap.size, 0, none⟩) 1 1 (rowCells [y])) := ⟨Rd.new_ rfl rfl⟩
            have hl4 : wr.heap.size < (wr.alloc (.cells #[.string y.key, .int .i64 y.stamp, .string y.val] 29)).heap.size := by simp
            clear hy hsn hal
            go_wp2_with fail
            generalize (wr.alloc (.cells #[.string y.key, .int .i64 y.stamp, .string y.val] 29)) = w4 at B4 O4 P4 X4 hl4 ⊢
            generalize wr.heap.size = rb at X4 hl4 ⊢
            refine (find_calls (RB.out.below B4.out) hm SB.out y.key).mono ?_
            rintro e w5 ⟨rfl, hb5⟩
            have B5 := Asd.mk (B4.out.trans (hb5.mono B4.out.size))
            have O5 := Asd.mk (O4.out.kept (gb_below hb5 none) (by cases (Value.slice D nd cd).ownBlock <;> simp))
            have P5 := Asd.mk (P4.out.kept (gb_below hb5 none) (by cases (Value.slice P np cp).ownBlock <;> simp))
            have X5 := Asd.mk (X4.out.below hb5)
            have hl5 : rb < w5.heap.size := Nat.lt_of_lt_of_le hl4 hb5.size
            clear hb5 c0 c1 c2
            obtain ⟨d0, d1, d2⟩ := X5.out.row1
            cases ht : there y.key b with
            | true =>
              have HT := Asd.mk ht
              clear ht
              go_wp2_with fail
              go_roundw
              case measure => simp [intOf]; omega
              case rel =>
                have O9 := O5.out
                rw [show goneP (a.take j) b = goneP (a.take (j + 1)) b from by rw [SN.out, if_pos HT.out]; simp] at O9
                exact ⟨j + 1, nd, cd, D, rfl, by go_num, by omega, B5, P5, ⟨O9⟩⟩
            | false =>
              have HT := Asd.mk ht
              clear ht
              go_wp2_with (at_builtin; refine wpList_append_mine (base := base) (own := w.heap.size) (n := nd) (m := 1) (v := .slice D nd cd) (xs := tCells (goneP (a.take j) b)) (ys := tCells [y.key]) rfl (.tmp 68) (.tmp 71) 24 rfl elt_str rfl rfl (O5.out.alloc _) (Rd.new_ rfl rfl) (txt_one _) (by unfold maxLen; omega) (by omega) (Nat.le_trans B5.out.size (by simp)) ?_; intro v8 w8 O8' G8'; obtain ⟨P8, c8, rfl, _⟩ := Rd.of_own (base := base) O8'; have O8 := Asd.mk O8'; have P8' := Asd.mk (own_grownR (P5.out.alloc (.cells #[.string y.key] 9)) G8' (fun j hj => (own_ist (O5.out.alloc (.cells #[.string y.key] 9)) j hj).1) (by decide)); have B8 := Asd.mk ((B5.out.alloc B5.out.size (.cells #[.string y.key] 9)).grown G8' (Nat.le_trans B5.out.size (by simp)) (fun j hj => (O5.out.lt j hj).1)); clear O8' G8')
              go_roundw
              case measure => simp [intOf]; omega
              case rel =>
                have hre : tCells (goneP (a.take j) b) ++ tCells [y.key] = tCells (goneP (a.take (j + 1)) b) := by rw [SN.out, if_neg (by rw [HT.out]; simp)]; simp [tCells]
                have O9 := O8.out
                rw [hre] at O9
                exact ⟨j + 1, nd + 1, c8, P8, rfl, by go_num, by omega, B8, P8', ⟨O9⟩⟩
          · obtain rfl : j = n := by omega
            have hat : a.take j = a := List.take_of_length_le (by have := NA.out; omega)
            have hO := OW.out
            rw [hat] at hO
            have OD := Asd.mk hO
            clear hO hat
            go_wp2_with fail
            go_ret3
            refine ⟨P, D, np, cp, nd, cd, by rw [HE.out]; rfl, BW.out, ?_, ?_⟩
            · rw [show putR a b = putP a b from if_pos HE.out]; exact OP.out
            · rw [show goneR a b = goneP a b from if_pos HE.out]; exact OD.out
  · have PR := Asd.mk (show putR a b = [] from if_neg he)
    have GR := Asd.mk (show goneR a b = [] from if_neg he)
    have he1 : (errP a b == 0) = false := by simpa using he
    have he2 : (errP a b != 0) = true := by simpa using he
    generalize hE : errP a b = E at *
    have HE := Asd.mk hE
    clear hE
    go_wp2_with fail
    go_ret3
    refine ⟨none, none, 0, 0, 0, 0, by rw [HE.out]; rfl, B3.out, ?_, ?_⟩
    · rw [PR.out]; exact World.ownsRow_nil _ _ _ _
    · rw [GR.out]; exact World.ownsRow_nil _ _ _ _
end Go.Proofs.Ytgiajfgeplekbaa

/- DiffTurns, the walk. -/
import Derived.Test.YtgiajfgeplekbaaD12
set_option linter.unusedVariables false
set_option linter.unusedSimpArgs false
namespace Go.Proofs.Ytgiajfgeplekbaa
open Go.RowKit

/-- A list of texts in memory, in a block below H. -/
def TX (b H : Nat) (w : World) (A : Option Addr) (n c : Nat) (l : List ByteArray) : Prop := Rd b 9 w 1 A n c (tCells l) ∧ ∀ a, A = some a → a.block < H
theorem TX.below {b H : Nat} {w w' : World} {A : Option Addr} {n c : Nat} {l : List ByteArray} (h : TX b H w A n c l) (hb : Below w.heap.size w w') : TX b H w' A n c l := ⟨h.1.below hb, h.2⟩
theorem TX.alloc {b H : Nat} {w : World} {A : Option Addr} {n c : Nat} {l : List ByteArray} (h : TX b H w A n c l) (o : Obj) : TX b H (w.alloc o) A n c l := ⟨h.1.alloc o, h.2⟩
theorem TX.keep {b H own m : Nat} {w w' : World} {A : Option Addr} {n c : Nat} {l : List ByteArray} {v : Value} {zs : List Value} (h : TX b H w A n c l) (hO : w.ownsRow own 9 1 v m zs) (hg : w.grownBy w' v.ownBlock) (hH : H ≤ own) : TX b H w' A n c l :=
  ⟨h.1.keepO hO hg (fun a e j hj => by have := h.2 a e; have := (hO.lt j hj).1; omega), h.2⟩
theorem TX.of_own {own b m : Nat} {w : World} {v : Value} {l : List ByteArray} (h : w.ownsRow own 9 1 v m (tCells l)) : ∃ A c, v = .slice A m c ∧ TX b w.heap.size w A m c l := by
  obtain ⟨A, c, rfl, hr⟩ := Rd.of_own (base := b) h
  exact ⟨A, c, rfl, hr, fun a ha => (h.lt a.block (by rw [ha]; rfl)).2⟩
theorem TX.up {b H H' : Nat} {w : World} {A : Option Addr} {n c : Nat} {l : List ByteArray} (h : TX b H w A n c l) (hH : H ≤ H') : TX b H' w A n c l := ⟨h.1, fun a ha => Nat.lt_of_lt_of_le (h.2 a ha) hH⟩
theorem Rd.growT {base own m T U k n c q : Nat} {w w' : World} {A : Option Addr} {xs zs : List Value} {v : Value} (h : Rd base T w k A n c xs) (hO : w.ownsRow own U q v m zs) (hg : w.grownBy w' v.ownBlock) (hU : U ≠ T) (hb : base ≤ own) : Rd base T w' k A n c xs :=
  h.grownR hg (fun j hj => ⟨(own_ist hO j hj).1, Nat.le_trans hb (own_ist hO j hj).2⟩) hU

set_option maxHeartbeats 16000000 in
set_option maxRecDepth 100000 in
theorem Turns_walk {w : World} {A B : Option Addr} {n c m d : Nat} {a b : List Rw} (ha : Rd w.heap.size 29 w 3 A n c (rowCells a)) (hb : Rd w.heap.size 29 w 3 B m d (rowCells b)) :
    Calls Try.prog 3 #[.slice A n c, .slice B m d] w fun e w' => e = .returned (.bool true) ∧ Below w.heap.size w w' := by
  have hcn := ha.count (enc := Rw.enc) (fun _ => rfl) (by omega)
  have hcm := hb.count (enc := Rw.enc) (fun _ => rfl) (by omega)
  have RA := Asd.mk ha
  have RB := Asd.mk hb
  have NA := Asd.mk hcn
  have NB := Asd.mk hcm
  clear ha hb hcn hcm
  go_enter Try.func3, Try.ntmps3
  go_wp2_with fail
  refine (works_calls _).mono ?_
  rintro e w1 ⟨rfl, hb1⟩
  have B1 := Asd.mk hb1
  clear hb1
  by_cases hn : (100 : Int) < (n : Int)
  · go_wp2_with fail
    go_ret
    exact ⟨rfl, B1.out⟩
  by_cases hm : (100 : Int) < (m : Int)
  · go_wp2_with fail
    go_ret
    exact ⟨rfl, B1.out⟩
  go_wp2_with fail
  refine (Diff_calls (RA.out.below B1.out) (RB.out.below B1.out) (by omega) (by omega) B1.out.size).mono ?_
  rintro e w2 ⟨P, D0, np, cp, nd0, cd0, rfl, hb2, hP, hD⟩
  have B2 := Asd.mk (B1.out.trans (hb2.mono B1.out.size))
  have OP := Asd.mk hP
  have OD := Asd.mk hD
  clear hb2 hP hD
  go_wp2_with fail
  refine (Diff_calls (RB.out.below B2.out) (RA.out.below B2.out) (by omega) (by omega) B2.out.size).mono ?_
  rintro e w3 ⟨Q, E, nq, cq, ne, ce, rfl, hb3, hQ, hE⟩
  have B3 := Asd.mk (B2.out.trans (hb3.mono B2.out.size))
  have hP := OP.out.kept (gb_below hb3 none) (by cases (Value.slice P np cp).ownBlock <;> simp)
  have hD := OD.out.kept (gb_below hb3 none) (by cases (Value.slice D0 nd0 cd0).ownBlock <;> simp)
  clear hb3 OP OD
  by_cases he : errP a b = 0
  · have hsab : wrongP a = 0 ∧ wrongP b = 0 := by
      unfold errP at he
      split at he
      · exact ⟨by assumption, he⟩
      · contradiction
    have hf : errP b a = 0 := by unfold errP; rw [if_pos hsab.2]; exact hsab.1
    have SA := Asd.mk (wrongP_sorted hsab.1)
    have SB := Asd.mk (wrongP_sorted hsab.2)
    rw [show putR a b = putP a b from if_pos he] at hP
    rw [show goneR a b = goneP a b from if_pos he] at hD
    rw [show putR b a = putP b a from if_pos hf] at hQ
    rw [show goneR b a = goneP b a from if_pos hf] at hE
    have LP := Asd.mk (own_len hP)
    have LQ := Asd.mk (own_len hQ)
    have LD := Asd.mk (own_tlen hD)
    have LE := Asd.mk (own_tlen hE)
    obtain ⟨P', cp', e1, hRP⟩ := Rd.of_own (base := w.heap.size) hP
    cases e1
    obtain ⟨Q', cq', e2, hRQ⟩ := Rd.of_own (base := w.heap.size) hQ
    cases e2
    obtain ⟨D', cd', e3, hTD⟩ := TX.of_own (b := w.heap.size) hD
    cases e3
    obtain ⟨E', ce', e4, hTE⟩ := TX.of_own (b := w.heap.size) hE
    cases e4
    have XP := Asd.mk hRP
    have XQ := Asd.mk hRQ
    have XD := Asd.mk hTD
    have XE := Asd.mk hTE
    have TL := Asd.mk (turns_len SA.out SB.out)
    have TL2 := Asd.mk (turns_len SB.out SA.out)
    have TS := Asd.mk (turns_same SA.out SB.out)
    have hnp : np ≤ m := by
      rw [LP.out, ← NB.out]
      exact List.length_filter_le _ _
    have hnq : nq ≤ n := by
      rw [LQ.out, ← NA.out]
      exact List.length_filter_le _ _
    have hnd0 : nd0 ≤ n := by
      rw [LD.out, ← NA.out]
      unfold goneP
      rw [List.length_map]
      exact List.length_filter_le _ _
    have hne : ne ≤ m := by
      rw [LE.out, ← NB.out]
      unfold goneP
      rw [List.length_map]
      exact List.length_filter_le _ _
    have HWw3 : Asd (w.heap.size ≤ w3.heap.size) := ⟨B3.out.size⟩
    rw [he, hf]
    clear hP hD hQ hE hRP hRQ hTD hTE he hf hsab
    go_wp2_with fail
    go_loopw [11, 54] (fun s1 s2 wr => ∃ (k nd cd : Nat) (D : Option Addr), s1 = .slice D nd cd ∧ s2 = .int .i64 k ∧ k ≤ np ∧ Asd (Below w.heap.size w wr) ∧ Asd (w3.heap.size ≤ wr.heap.size) ∧ Asd (Rd w.heap.size 29 wr 3 P np cp (rowCells (putP a b))) ∧ Asd (Rd w.heap.size 29 wr 3 Q nq cq (rowCells (putP b a))) ∧ Asd (TX w.heap.size w3.heap.size wr D0 nd0 cd0 (goneP a b)) ∧ Asd (TX w.heap.size w3.heap.size wr E ne ce (goneP b a)) ∧
      Asd (wr.ownsRow w3.heap.size 9 1 (.slice D nd cd) nd (tCells (mineP ((putP a b).take k) (goneP b a))))) (fun _ s2 _ => np - (intOf s2).toNat)
    case atStart => exact ⟨0, 0, 0, none, rfl, rfl, by omega, B3, ⟨Nat.le_refl _⟩, XP, XQ, XD, XE, ⟨World.ownsRow_nil _ _ _ _⟩⟩
    case round =>
      clear XP XQ XD XE
      obtain ⟨k, nd, cd, D, rfl, rfl, hk, BW, SW, XP, XQ, XD, XE, OW⟩ := hrel
      by_cases hlt : k < np
      · have hil : k < ((putP a b)).length := by have := LP.out; omega
        obtain ⟨bb, boff, rfl, _, _, c0, c1, c2⟩ := XP.out.row hlt
        generalize hy : ((putP a b))[k] = y at c0 c1 c2
        have hsn : mineP ((putP a b).take (k + 1)) (goneP b a) = mineP ((putP a b).take k) (goneP b a) ++ (if y.key ∈ (goneP b a) then [] else [y.key]) := by
          rw [List.take_succ_eq_append_getElem hil, mineP_snoc, hy]
        have hnd : nd ≤ k := by
          have h1 := own_tlen OW.out
          have h2 : (mineP ((putP a b).take k) (goneP b a)).length ≤ ((putP a b).take k).length := by
            unfold mineP
            rw [List.length_map]
            exact List.length_filter_le _ _
          rw [List.length_take] at h2
          omega
        have SN := Asd.mk hsn
        have hal : Below wr.heap.size wr (wr.alloc (.cells #[.string y.key, .int .i64 y.stamp, .string y.val] 29)) := (Below.refl _ _).alloc (Nat.le_refl _) _
        have B4 := Asd.mk (BW.out.trans (hal.mono BW.out.size))
        have S4 : Asd (w3.heap.size ≤ (wr.alloc (.cells #[.string y.key, .int .i64 y.stamp, .string y.val] 29)).heap.size) := ⟨Nat.le_trans SW.out hal.size⟩
        have O4 := Asd.mk (OW.out.alloc (.cells #[.string y.key, .int .i64 y.stamp, .string y.val] 29))
        have XP4 := Asd.mk (XP.out.alloc (.cells #[.string y.key, .int .i64 y.stamp, .string y.val] 29))
        have XQ4 := Asd.mk (XQ.out.alloc (.cells #[.string y.key, .int .i64 y.stamp, .string y.val] 29))
        have XD4 := Asd.mk (XD.out.alloc (.cells #[.string y.key, .int .i64 y.stamp, .string y.val] 29))
        have XE4 := Asd.mk (XE.out.alloc (.cells #[.string y.key, .int .i64 y.stamp, .string y.val] 29))
        have X4 : Asd (Rd w.heap.size 29 (wr.alloc (.cells #[.string y.key, .int .i64 y.stamp, .string y.val] 29)) 3 (some ⟨wr.heap.size, 0, none⟩) 1 1 (rowCells [y])) := ⟨Rd.new_ rfl rfl⟩
        have hl4 : wr.heap.size < (wr.alloc (.cells #[.string y.key, .int .i64 y.stamp, .string y.val] 29)).heap.size := by simp
        clear hy hsn hal
        go_wp2_with fail
        generalize (wr.alloc (.cells #[.string y.key, .int .i64 y.stamp, .string y.val] 29)) = w4 at B4 S4 O4 X4 hl4 XP4 XQ4 XD4 XE4 ⊢
        generalize wr.heap.size = rb at X4 hl4 ⊢
        refine (named_calls XE4.out.1 (by omega) y.key).mono ?_
        rintro e w5 ⟨rfl, rfl⟩
        clear c0 c1 c2
        obtain ⟨d0, d1, d2⟩ := X4.out.row1
        by_cases ht : y.key ∈ (goneP b a)
        · have HT := Asd.mk ht
          rw [decide_eq_true ht]
          clear ht
          go_wp2_with fail
          go_roundw
          case measure => simp [intOf]; omega
          case rel =>
            have O9 := O4.out
            rw [show mineP ((putP a b).take k) (goneP b a) = mineP ((putP a b).take (k + 1)) (goneP b a) from by rw [SN.out, if_pos HT.out]; simp] at O9
            exact ⟨k + 1, nd, cd, D, rfl, by go_num, by omega, B4, S4, XP4, XQ4, XD4, XE4, ⟨O9⟩⟩
        · have HT := Asd.mk ht
          rw [decide_eq_false ht]
          clear ht
          go_wp2_with (at_builtin; refine wpList_append_mine (base := w.heap.size) (own := w3.heap.size) (n := nd) (m := 1) (v := .slice D nd cd) (xs := tCells (mineP ((putP a b).take k) (goneP b a))) (ys := tCells [y.key]) rfl (.tmp 63) (.tmp 66) 24 rfl elt_str rfl rfl (O4.out.alloc _) (Rd.new_ rfl rfl) (txt_one _) (by unfold maxLen; omega) (by omega) (Nat.le_trans S4.out (by simp)) ?_; intro v8 w8 O8' G8'; obtain ⟨P8, c8, rfl, _⟩ := Rd.of_own (base := w.heap.size) O8'; have O8 := Asd.mk O8'; have XP8 := Asd.mk ((XP4.out.alloc (.cells #[.string y.key] 9)).growT (O4.out.alloc (.cells #[.string y.key] 9)) G8' (by decide) HWw3.out); have XQ8 := Asd.mk ((XQ4.out.alloc (.cells #[.string y.key] 9)).growT (O4.out.alloc (.cells #[.string y.key] 9)) G8' (by decide) HWw3.out); have XD8 := Asd.mk ((XD4.out.alloc (.cells #[.string y.key] 9)).keep (O4.out.alloc (.cells #[.string y.key] 9)) G8' (Nat.le_refl _)); have XE8 := Asd.mk ((XE4.out.alloc (.cells #[.string y.key] 9)).keep (O4.out.alloc (.cells #[.string y.key] 9)) G8' (Nat.le_refl _)); have B8 := Asd.mk ((B4.out.alloc B4.out.size (.cells #[.string y.key] 9)).grown G8' (Nat.le_trans B4.out.size (by simp)) (fun j hj => Nat.le_trans HWw3.out (O4.out.lt j hj).1)); have S8 : Asd (w3.heap.size ≤ w8.heap.size) := ⟨Nat.le_trans S4.out (Nat.le_trans (by simp) G8'.size)⟩; clear O8' G8')
          go_roundw
          case measure => simp [intOf]; omega
          case rel =>
            have hre : tCells (mineP ((putP a b).take k) (goneP b a)) ++ tCells [y.key] = tCells (mineP ((putP a b).take (k + 1)) (goneP b a)) := by rw [SN.out, if_neg HT.out]; simp [tCells]
            have O9 := O8.out
            rw [hre] at O9
            exact ⟨k + 1, nd + 1, c8, P8, rfl, by go_num, by omega, B8, S8, XP8, XQ8, XD8, XE8, ⟨O9⟩⟩
      · obtain rfl : k = np := by omega
        have hpt : (putP a b).take k = putP a b := List.take_of_length_le (by have := LP.out; omega)
        have hO := OW.out
        rw [hpt] at hO
        obtain ⟨M, cm, e5, hTM⟩ := TX.of_own (b := w.heap.size) hO
        cases e5
        have LM := Asd.mk (own_tlen hO)
        have XM := Asd.mk hTM
        have B5 := BW
        have HWw5 : Asd (w.heap.size ≤ wr.heap.size) := ⟨BW.out.size⟩
        have S35 := SW
        clear hO hpt hTM OW BW SW
        generalize hw5 : wr = w5 at *
        clear hw5
        go_wp2_with fail
        go_loopw [12, 71] (fun s1 s2 wr => ∃ (j nt ct : Nat) (T : Option Addr), s1 = .slice T nt ct ∧ s2 = .int .i64 j ∧ j ≤ nq ∧ Asd (Below w.heap.size w wr) ∧ Asd (w5.heap.size ≤ wr.heap.size) ∧ Asd (Rd w.heap.size 29 wr 3 Q nq cq (rowCells (putP b a))) ∧ Asd (TX w.heap.size w3.heap.size wr D0 nd0 cd0 (goneP a b)) ∧ Asd (TX w.heap.size w5.heap.size wr D nd cd (mineP (putP a b) (goneP b a))) ∧
          Asd (wr.ownsRow w5.heap.size 9 1 (.slice T nt ct) nt (tCells (mineP ((putP b a).take j) (goneP a b))))) (fun _ s2 _ => nq - (intOf s2).toNat)
        case atStart => exact ⟨0, 0, 0, none, rfl, rfl, by omega, B5, ⟨Nat.le_refl _⟩, XQ, XD, XM, ⟨World.ownsRow_nil _ _ _ _⟩⟩
        case round =>
          clear XQ XD XM
          obtain ⟨j, nt, ct, T, rfl, rfl, hk, BW, SW, XQ, XD, XM, OW⟩ := hrel
          by_cases hlt : j < nq
          · have hil : j < ((putP b a)).length := by have := LQ.out; omega
            obtain ⟨bb, boff, rfl, _, _, c0, c1, c2⟩ := XQ.out.row hlt
            generalize hy : ((putP b a))[j] = y at c0 c1 c2
            have hsn : mineP ((putP b a).take (j + 1)) (goneP a b) = mineP ((putP b a).take j) (goneP a b) ++ (if y.key ∈ (goneP a b) then [] else [y.key]) := by
              rw [List.take_succ_eq_append_getElem hil, mineP_snoc, hy]
            have hnd : nt ≤ j := by
              have h1 := own_tlen OW.out
              have h2 : (mineP ((putP b a).take j) (goneP a b)).length ≤ ((putP b a).take j).length := by
                unfold mineP
                rw [List.length_map]
                exact List.length_filter_le _ _
              rw [List.length_take] at h2
              omega
            have SN := Asd.mk hsn
            have hal : Below wr.heap.size wr (wr.alloc (.cells #[.string y.key, .int .i64 y.stamp, .string y.val] 29)) := (Below.refl _ _).alloc (Nat.le_refl _) _
            have B4 := Asd.mk (BW.out.trans (hal.mono BW.out.size))
            have S4 : Asd (w5.heap.size ≤ (wr.alloc (.cells #[.string y.key, .int .i64 y.stamp, .string y.val] 29)).heap.size) := ⟨Nat.le_trans SW.out hal.size⟩
            have O4 := Asd.mk (OW.out.alloc (.cells #[.string y.key, .int .i64 y.stamp, .string y.val] 29))
            have XQ4 := Asd.mk (XQ.out.alloc (.cells #[.string y.key, .int .i64 y.stamp, .string y.val] 29))
            have XD4 := Asd.mk (XD.out.alloc (.cells #[.string y.key, .int .i64 y.stamp, .string y.val] 29))
            have XM4 := Asd.mk (XM.out.alloc (.cells #[.string y.key, .int .i64 y.stamp, .string y.val] 29))
            have X4 : Asd (Rd w.heap.size 29 (wr.alloc (.cells #[.string y.key, .int .i64 y.stamp, .string y.val] 29)) 3 (some ⟨wr.heap.size, 0, none⟩) 1 1 (rowCells [y])) := ⟨Rd.new_ rfl rfl⟩
            have hl4 : wr.heap.size < (wr.alloc (.cells #[.string y.key, .int .i64 y.stamp, .string y.val] 29)).heap.size := by simp
            clear hy hsn hal
            go_wp2_with fail
            generalize (wr.alloc (.cells #[.string y.key, .int .i64 y.stamp, .string y.val] 29)) = w4 at B4 S4 O4 X4 hl4 XQ4 XD4 XM4 ⊢
            generalize wr.heap.size = rb at X4 hl4 ⊢
            refine (named_calls XD4.out.1 (by omega) y.key).mono ?_
            rintro e w6 ⟨rfl, rfl⟩
            clear c0 c1 c2
            obtain ⟨d0, d1, d2⟩ := X4.out.row1
            by_cases ht : y.key ∈ (goneP a b)
            · have HT := Asd.mk ht
              rw [decide_eq_true ht]
              clear ht
              go_wp2_with fail
              go_roundw
              case measure => simp [intOf]; omega
              case rel =>
                have O9 := O4.out
                rw [show mineP ((putP b a).take j) (goneP a b) = mineP ((putP b a).take (j + 1)) (goneP a b) from by rw [SN.out, if_pos HT.out]; simp] at O9
                exact ⟨j + 1, nt, ct, T, rfl, by go_num, by omega, B4, S4, XQ4, XD4, XM4, ⟨O9⟩⟩
            · have HT := Asd.mk ht
              rw [decide_eq_false ht]
              clear ht
              go_wp2_with (at_builtin; refine wpList_append_mine (base := w.heap.size) (own := w5.heap.size) (n := nt) (m := 1) (v := .slice T nt ct) (xs := tCells (mineP ((putP b a).take j) (goneP a b))) (ys := tCells [y.key]) rfl (.tmp 80) (.tmp 83) 24 rfl elt_str rfl rfl (O4.out.alloc _) (Rd.new_ rfl rfl) (txt_one _) (by unfold maxLen; omega) (by omega) (Nat.le_trans S4.out (by simp)) ?_; intro v8 w8 O8' G8'; obtain ⟨P8, c8, rfl, _⟩ := Rd.of_own (base := w.heap.size) O8'; have O8 := Asd.mk O8'; have XQ8 := Asd.mk ((XQ4.out.alloc (.cells #[.string y.key] 9)).growT (O4.out.alloc (.cells #[.string y.key] 9)) G8' (by decide) HWw5.out); have XD8 := Asd.mk ((XD4.out.alloc (.cells #[.string y.key] 9)).keep (O4.out.alloc (.cells #[.string y.key] 9)) G8' S35.out); have XM8 := Asd.mk ((XM4.out.alloc (.cells #[.string y.key] 9)).keep (O4.out.alloc (.cells #[.string y.key] 9)) G8' (Nat.le_refl _)); have B8 := Asd.mk ((B4.out.alloc B4.out.size (.cells #[.string y.key] 9)).grown G8' (Nat.le_trans B4.out.size (by simp)) (fun i hi => Nat.le_trans HWw5.out (O4.out.lt i hi).1)); have S8 : Asd (w5.heap.size ≤ w8.heap.size) := ⟨Nat.le_trans S4.out (Nat.le_trans (by simp) G8'.size)⟩; clear O8' G8')
              go_roundw
              case measure => simp [intOf]; omega
              case rel =>
                have hre : tCells (mineP ((putP b a).take j) (goneP a b)) ++ tCells [y.key] = tCells (mineP ((putP b a).take (j + 1)) (goneP a b)) := by rw [SN.out, if_neg HT.out]; simp [tCells]
                have O9 := O8.out
                rw [hre] at O9
                exact ⟨j + 1, nt + 1, c8, P8, rfl, by go_num, by omega, B8, S8, XQ8, XD8, XM8, ⟨O9⟩⟩
          · obtain rfl : j = nq := by omega
            have hpt : (putP b a).take j = putP b a := List.take_of_length_le (by have := LQ.out; omega)
            have hO := OW.out
            rw [hpt] at hO
            obtain ⟨T', ct', e6, hTT⟩ := TX.of_own (b := w.heap.size) hO
            cases e6
            have LT := Asd.mk (own_tlen hO)
            have XT := Asd.mk hTT
            have e1 : k = nd + ne := by have h1 := LP.out; have h2 := LM.out; have h3 := LE.out; have h4 := TL.out; omega
            have e2 : j = nt + nd0 := by have h1 := LQ.out; have h2 := LT.out; have h3 := LD.out; have h4 := TL2.out; omega
            have hnd2 : nd ≤ m := by omega
            have hnt2 : nt ≤ n := by omega
            clear hO hpt hTT OW SW LP LQ LM LT LE LD TL TL2
            subst e1 e2
            go_wp2_with fail
            refine (SameTexts_calls XM.out.1 XT.out.1 (by omega)).mono ?_
            rintro e w7 ⟨rfl, q7, hq7⟩
            have B7 := Asd.mk (BW.out.trans ((hq7 ▸ below_dn _ _ : Below wr.heap.size wr w7).mono BW.out.size))
            clear hq7
            rw [decide_eq_true TS.out]
            go_wp2_with fail
            go_ret
            exact ⟨rfl, B7.out⟩
  · have hf : errP b a ≠ 0 := by
      intro hf
      unfold errP at he hf
      split at hf
      · rename_i h
        exact he (by rw [if_pos hf]; exact h)
      · rename_i h
        exact h hf
    have he1 : (errP a b == 0) = false := by simpa using he
    have he2 : (errP a b != 0) = true := by simpa using he
    have hf1 : (errP b a == 0) = false := by simpa using hf
    have hf2 : (errP b a != 0) = true := by simpa using hf
    clear hP hD hQ hE he hf
    generalize errP a b = x at *
    generalize errP b a = y at *
    go_wp2_with fail
    go_ret
    exact ⟨rfl, B3.out⟩
end Go.Proofs.Ytgiajfgeplekbaa

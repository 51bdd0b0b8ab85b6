/- Take, the walk. -/
import Derived.Test.YtehfaeafefkngaaTt1
import Derived.Test.YtehfaeafefkngaaTt2
import Derived.Test.YtehfaeafefkngaaTl9w
import Derived.OwnWalk
set_option linter.unusedVariables false
set_option linter.unusedSimpArgs false
namespace Go.Proofs.Ytehfaeafefkngaa
open Go.RowKit

def TakePost (base : Nat) (w : World) (A : Option Addr) (g : Nat) (p : Int × List Rw) (e : Ending) (w' : World) : Prop :=
  e = .returned (.int .i64 p.1) ∧ w.grownBy w' (some g) ∧ ∃ A' c', Tab base w' g p.2 A' c' ∧ Fr w A A'

theorem Rd.keepO {base own T k n c m q : Nat} {w w' : World} {A : Option Addr} {xs zs : List Value} {v : Value} (h : Rd base T w k A n c xs) (hO : w.ownsRow own T q v m zs) (hg : w.grownBy w' v.ownBlock) (ha : ∀ a, A = some a → ∀ j, v.ownBlock = some j → a.block ≠ j) : Rd base T w' k A n c xs :=
  h.keepA hg.size fun a e hl => hg.block _ hl (fun e2 => ha a e _ e2.symm rfl)
theorem Rd.row1 {base b : Nat} {w : World} {y : Rw} (h : Rd base 53 w 3 (some ⟨b, 0, none⟩) 1 1 (rowCells [y])) : w.cell? ⟨b, 0, none⟩ = some (.string y.key) ∧ w.cell? ⟨b, 1, none⟩ = some (.int .i64 y.stamp) ∧ w.cell? ⟨b, 2, none⟩ = some (.string y.val) := by
  obtain ⟨b', off', hA, _, hl', hc⟩ := h.at_enc (enc := Rw.enc) (fun _ => rfl) (by omega) (i := 0) (by omega)
  cases hA
  exact ⟨hc 0 _ rfl, hc 1 _ rfl, hc 2 _ rfl⟩

theorem take_round {base own k n : Nat} {w w8 : World} {l rows out rest : List Rw} {y : Rw} {A8 Ar : Option Addr} {c8 cr at_ at2 : Nat}
    (hST : mState l (rows.take (k + 1)) = (out ++ rest.take at_ ++ [y], rest.drop at2)) (O8 : w8.ownsRow own 53 3 (.slice A8 (out.length + at_ + 1) c8) (out.length + at_ + 1) (rowCells out ++ rowCells (rest.take at_) ++ rowCells [y]))
    (R8 : Rd base 53 w8 3 Ar rest.length cr (rowCells rest)) (hat : at_ ≤ rest.length) (hat2 : at2 ≤ rest.length) (AW : ∀ a, Ar = some a → a.block < own) (kn : k < n) (hB : Below w.heap.size w w8) (hS : own ≤ w8.heap.size) :
    ∃ (k' co cr' : Nat) (Ao Ar' : Option Addr) (out' rest' : List Rw), Value.slice A8 (out.length + at_ + 1) c8 = .slice Ao out'.length co ∧ Value.slice (if cr = at2 then Ar else Ar.map (·.add (at2 * 3))) (rest.length - at2) (cr - at2) = .slice Ar' rest'.length cr' ∧ Value.int .i64 ((k : Int) + 1) = .int .i64 k' ∧ k' ≤ n ∧
      Asd (mState l (rows.take k') = (out', rest')) ∧ Asd (Below w.heap.size w w8) ∧ Asd (own ≤ w8.heap.size) ∧ Asd (w8.ownsRow own 53 3 (.slice Ao out'.length co) out'.length (rowCells out')) ∧ Asd (Rd base 53 w8 3 Ar' rest'.length cr' (rowCells rest')) ∧ Asd (∀ a, Ar' = some a → a.block < own) := by
  have h1 : (out ++ rest.take at_ ++ [y]).length = out.length + at_ + 1 := by simp; omega
  have h2 : (rest.drop at2).length = rest.length - at2 := by simp
  have h3 : rowCells (out ++ rest.take at_ ++ [y]) = rowCells out ++ rowCells (rest.take at_) ++ rowCells [y] := by simp [rowCells]
  have hcut := R8.cut (lo := at2) (hi := rest.length) (c' := cr) hat2 (Nat.le_refl _) R8.cap (Nat.le_refl _)
  rw [show (rowCells rest).drop (at2 * 3) = rowCells (rest.drop at2) from flat_drop Rw.enc 3 (fun _ => rfl) rest _, List.take_of_length_le (by rw [show (rowCells (rest.drop at2)).length = (rest.drop at2).length * 3 from flat_len Rw.enc 3 (fun _ => rfl) _, List.length_drop]; exact Nat.le_refl _)] at hcut
  refine ⟨k + 1, c8, cr - at2, A8, _, _, _, by rw [h1], by rw [h2], by push_cast; rfl, by omega, ⟨hST⟩, ⟨hB⟩, ⟨hS⟩, ⟨by rw [h1, h3]; exact O8⟩, ⟨by rw [h2]; exact hcut⟩, ⟨fun a ha => ?_⟩⟩
  split at ha
  · exact AW a ha
  · cases Ar with
    | none => simp at ha
    | some a0 =>
      simp at ha
      subst ha
      have := AW a0 rfl
      unfold Addr.add
      split <;> exact this

set_option maxHeartbeats 8000000 in
set_option maxRecDepth 100000 in
theorem Take_calls {base g c : Nat} {w : World} {l : List Rw} {A : Option Addr} (h : Tab base w g l A c) {B : Option Addr} {n d : Nat} {rows : List Rw} (hr : Rd base 53 w 3 B n d (rowCells rows)) (hn : n ≤ 4096) :
    Calls Try.prog 24 #[.pointer (some ⟨g, 0, none⟩), .slice B n d] w (TakePost base w A g (takeP l rows)) := by
  have hcnt := hr.count (enc := Rw.enc) (fun _ => rfl) (by omega)
  have hbs : base ≤ w.heap.size := by have := h.ge; have := h.lt; omega
  have H := Asd.mk h
  have R := Asd.mk hr
  have N := Asd.mk hcnt
  have hgl := h.lt
  have hcap := h.rd.cap
  have hbig := h.big
  have hnil := h.rd.nil
  have NIL := Asd.mk hnil
  generalize hp : takeP l rows = p
  have P := Asd.mk hp
  clear h hr hcnt hp hnil
  have same : ∀ (W : World), Below w.heap.size w W → ∀ v, p = (v, l) → TakePost base w A g p (.returned (.int .i64 v)) W := by
    rintro W hB v rfl
    exact ⟨rfl, gb_below hB _, A, c, H.out.below hB, .inl rfl⟩
  have SAME := Asd.mk same
  clear same
  obtain ⟨i0, hi, hz0, hz1, hz2⟩ : ∃ i, Try.prog.info? 53 = some i ∧ i.zero = some (.agg #[.string ⟨#[]⟩, .int .i64 0, .string ⟨#[]⟩]) ∧ i.size = 3 ∧ i.bytes = 40 := by
    obtain ⟨i, z, h1, h2, h3, h4, h5⟩ := elt_row.info
    have hk : (Try.prog.info? 53).map (fun i => i.zero) = some (some (.agg #[.string ⟨#[]⟩, .int .i64 0, .string ⟨#[]⟩])) := by kernel_rfl
    rw [h1] at hk
    exact ⟨i, h1, by simpa using hk, h3, h4⟩
  go_enter Try.func24, Try.ntmps24
  go_wp2_with fail
  refine (ContainsFunc_row (base := base) (T := 53) w B n d rows R.out (by omega)).mono ?_
  rintro e w1 ⟨rfl, hb1⟩
  have B1 := Asd.mk hb1
  clear hb1
  cases hany : rows.any fun r => !rowOk r with
  | true =>
    have hp : p = (80, l) := P.out.symm.trans (by unfold takeP; rw [if_pos hany])
    have HP := Asd.mk hp
    clear hp hany
    go_wp2_with fail
    go_ret
    exact SAME.out _ B1.out _ HP.out
  | false =>
    have ANY := Asd.mk hany
    clear hany
    go_wp2_with fail
    refine (IsSorted_row (base := base) (T := 53) w1 B n d rows (R.out.below B1.out) (by omega)).mono ?_
    rintro e w2 ⟨b, rfl, hso, hb2⟩
    have B2 := Asd.mk (B1.out.trans (hb2.mono B1.out.size))
    have SO := Asd.mk hso
    clear hb2 hso
    cases b with
    | false =>
      have hp : p = (4, l) := P.out.symm.trans (by unfold takeP; rw [if_neg (by rw [ANY.out]; simp), if_pos (fun h => by have := SO.out.2 h; cases this)])
      have HP := Asd.mk hp
      clear hp
      go_wp2_with fail
      go_ret
      exact SAME.out _ B2.out _ HP.out
    | true =>
      have SRT := Asd.mk (SO.out.1 rfl)
      have hcg := (H.out.below B2.out).cell
      go_wp2_with (at_make; refine wpList_make_own _ rfl _ _ 37 rfl w2.heap.size 53 i0 _ 3 Try.underlying37 hi hz0 hz1 .i64 .i64 _ (l.length + n) rfl rfl (by omega) (by rw [hz2]; omega) (by simp only [maxLen]; omega) (Nat.le_refl _) ?_; intro w3 O3' G3'; have hB3 : Below w.heap.size w w3 := B2.out.grown G3' B2.out.size (fun j hj => by cases hj); have hcg3 := (H.out.below hB3).cell; have B3 := Asd.mk hB3; have hs23 : w2.heap.size ≤ w3.heap.size := G3'.size; have O3 := Asd.mk O3'; clear O3' G3' hB3 hcg)
      have hs2 : w.heap.size ≤ w2.heap.size := B2.out.size
      have OLD := Asd.mk H.out.old
      go_loopw [5, 6, 31] (fun s5 s6 s31 wr => ∃ (k co cr : Nat) (Ao Ar : Option Addr) (out rest : List Rw), s5 = .slice Ao out.length co ∧ s6 = .slice Ar rest.length cr ∧ s31 = .int .i64 k ∧ k ≤ n ∧ Asd (mState l (rows.take k) = (out, rest)) ∧ Asd (Below w.heap.size w wr) ∧ Asd (w2.heap.size ≤ wr.heap.size) ∧
        Asd (wr.ownsRow w2.heap.size 53 3 (.slice Ao out.length co) out.length (rowCells out)) ∧ Asd (Rd base 53 wr 3 Ar rest.length cr (rowCells rest)) ∧ Asd (∀ a, Ar = some a → a.block < w2.heap.size)) (fun _ _ s31 _ => n - (intOf s31).toNat)
      case atStart => exact ⟨0, _, c, _, A, [], l, rfl, rfl, rfl, by omega, ⟨rfl⟩, B3, ⟨hs23⟩, O3, ⟨(H.out.below B3.out).rd⟩, ⟨fun a ha => Nat.lt_of_lt_of_le (OLD.out a ha) hs2⟩⟩
      case round =>
        obtain ⟨k, co, cr, Ao, Ar, out, rest, rfl, rfl, rfl, hkn, ST, BW, SW, OW, RW, AW⟩ := hrel
        by_cases hlt : k < n
        · obtain ⟨b, off, rfl, hb, hil, c0, c1, c2⟩ := (R.out.below BW.out).row (i := k) hlt
          generalize hy : rows[k] = y at c0 c1 c2
          have Y := Asd.mk hy
          have hinv := merge_inv H.out.srt SRT.out k (by have := N.out; omega)
          obtain ⟨suf, hsuf, hsuf2⟩ := hinv.suf
          rw [ST.out] at hsuf2
          simp only at hsuf2
          have hrl : rest.length ≤ l.length := by rw [hsuf2, List.length_drop]; omega
          have hsr : Sorted rest := by rw [hsuf2]; exact H.out.srt.drop suf
          have hol : out.length + rest.length ≤ l.length + n := by
            have := mState_len l (rows.take k)
            rw [ST.out, List.length_take] at this
            simp only at this
            omega
          have SR := Asd.mk hsr
          have hrc := RW.out.cap
          have hal1 : Below wr.heap.size wr (wr.alloc (.cells #[.string y.key, .int .i64 y.stamp, .string y.val] 53)) := (Below.refl _ _).alloc (Nat.le_refl _) _
          clear hy hinv hsuf2 hsr
          have hrb : Rd base 53 ((wr.alloc (.cells #[.string y.key, .int .i64 y.stamp, .string y.val] 53)).alloc (.cells #[.slice Ar rest.length cr] 71)) 3 (some ⟨wr.heap.size, 0, none⟩) 1 1 (rowCells [y]) := Rd.alloc (Rd.new_ rfl rfl) _
          have hal : Below wr.heap.size wr ((wr.alloc (.cells #[.string y.key, .int .i64 y.stamp, .string y.val] 53)).alloc (.cells #[.slice Ar rest.length cr] 71)) := hal1.alloc (by simp) _
          have hTb : Tab base ((wr.alloc (.cells #[.string y.key, .int .i64 y.stamp, .string y.val] 53)).alloc (.cells #[.slice Ar rest.length cr] 71)) (wr.heap.size + 1) rest Ar cr := by
            refine ⟨by simpa using heap_alloc_new (wr.alloc (.cells #[.string y.key, .int .i64 y.stamp, .string y.val] 53)) (.cells #[.slice Ar rest.length cr] 71), ?_, RW.out.below hal, SR.out, by omega, fun a ha => ?_⟩
            · have := BW.out.size; omega
            · have := AW.out a ha; have := SW.out; have := hal.size; omega
          have hBx := BW.out.trans (hal.mono BW.out.size)
          have hOx := OW.out.kept (gb_below hal none) (by cases (Value.slice Ao out.length co).ownBlock <;> simp)
          have hAT := at_calls hTb y.key
          have hrl2 : wr.heap.size < ((wr.alloc (.cells #[.string y.key, .int .i64 y.stamp, .string y.val] 53)).alloc (.cells #[.slice Ar rest.length cr] 71)).heap.size := by simp; omega
          have hSx : w2.heap.size ≤ ((wr.alloc (.cells #[.string y.key, .int .i64 y.stamp, .string y.val] 53)).alloc (.cells #[.slice Ar rest.length cr] 71)).heap.size := Nat.le_trans SW.out hal.size
          have hRx := RW.out.below hal
          have AT := Asd.mk hAT
          have RBx := Asd.mk hrb
          have BXx := Asd.mk hBx
          have OXx := Asd.mk hOx
          have SXx := Asd.mk hSx
          have RXx := Asd.mk hRx
          clear hrb hal hTb hBx hOx hAT hal1 hSx hRx
          go_wp2_with fail
          generalize ((wr.alloc (.cells #[.string y.key, .int .i64 y.stamp, .string y.val] 53)).alloc (.cells #[.slice Ar rest.length cr] 71)) = w5 at AT RBx BXx OXx SXx RXx hrl2 ⊢
          refine AT.out.mono ?_
          rintro e w6 ⟨rfl, hb6⟩
          have RB := Asd.mk (RBx.out.below hb6)
          have B6 := Asd.mk (BXx.out.trans (hb6.mono BXx.out.size))
          have O6 := Asd.mk (OXx.out.kept (gb_below hb6 none) (by cases (Value.slice Ao out.length co).ownBlock <;> simp))
          have S6 : Asd (w2.heap.size ≤ w6.heap.size) := ⟨Nat.le_trans SXx.out hb6.size⟩
          have R6 := Asd.mk (RXx.out.below hb6)
          have hrl6 : wr.heap.size < w6.heap.size := Nat.lt_of_lt_of_le hrl2 hb6.size
          clear hb6 AT RBx BXx OXx SXx RXx hrl2
          have NE : Asd (∀ j, (Value.slice Ao out.length co).ownBlock = some j → w2.heap.size ≤ j ∧ j < wr.heap.size) := ⟨fun j hj => OW.out.lt j hj⟩
          generalize wr.heap.size = rb at RB hrl6 NE ⊢
          have hpl := pos_le y.key rest
          have hth : there y.key rest = true → pos y.key rest + 1 ≤ rest.length := fun h => (pos_lt SR.out h).1
          have hst : mState l (rows.take (k + 1)) = (out ++ rest.take (pos y.key rest) ++ [y], rest.drop (if there y.key rest then pos y.key rest + 1 else pos y.key rest)) := by
            rw [List.take_succ_eq_append_getElem hil, mState_snoc, ST.out, Y.out]; rfl
          have ST2 := Asd.mk hst
          have hrp := R6.out.prefix_ (hi := pos y.key rest) (c' := cr) (by omega) (by omega) (Nat.le_refl _) (fun e => R6.out.nil e)
          rw [show (rowCells rest).take (pos y.key rest * 3) = rowCells (rest.take (pos y.key rest)) from flat_take Rw.enc 3 (fun _ => rfl) rest _] at hrp
          have RP := Asd.mk hrp
          obtain ⟨d0, d1, d2⟩ := RB.out.row1
          generalize pos y.key rest = at_ at hpl hth ST2 RP ⊢
          generalize there y.key rest = th at hth ST2 ⊢
          clear hst hrp c0 c1 c2
          have hpc : at_ ≤ cr := by omega
          go_wp2_with fail
          have hdr : Below w6.heap.size w6 w6.drew := (Below.refl _ _).drew
          have O6d : Asd (w6.drew.ownsRow w2.heap.size 53 3 (.slice Ao out.length co) out.length (rowCells out)) := ⟨O6.out.kept (gb_below hdr none) (by cases (Value.slice Ao out.length co).ownBlock <;> simp)⟩
          have RPd := Asd.mk (RP.out.below hdr)
          have RBd := Asd.mk (RB.out.below hdr)
          have Rdd := Asd.mk (R6.out.below hdr)
          have B6d := Asd.mk (B6.out.trans (hdr.mono B6.out.size))
          have S6d : Asd (w2.heap.size ≤ w6.drew.heap.size) := S6
          clear hdr
          go_region_law (first
            | (refine step_append_mine (base := base) (own := w2.heap.size) (n := out.length) (m := at_) (v := .slice Ao out.length co) (xs := rowCells out) (ys := rowCells (rest.take at_)) rfl (.tmp 44) (.tmp 47) 37 rfl elt_row rfl rfl O6d.out RPd.out (row_one _) (by simp only [maxLen]; omega) (by omega) (S6d.out) ?_
               intro v7 w7 O7' G7'
               obtain ⟨A7, c7, rfl, _⟩ := Rd.of_own (base := base) O7'
               have O7 := Asd.mk O7'
               have RB7 := Asd.mk (Rd.keepO (RBd.out) (O6d.out) G7' (fun a e j hj => by cases e; have := (NE.out j hj).2; simp at *; omega))
               have R7 := Asd.mk (Rd.keepO (Rdd.out) (O6d.out) G7' (fun a e j hj => by have := (NE.out j hj).1; have := AW.out a e; omega))
               have B7 := Asd.mk ((B6d.out).grown G7' (by have := B6.out.size; simp; omega) (fun j hj => by have := (NE.out j hj).1; omega))
               have S7 : Asd (w2.heap.size ≤ w7.heap.size) := ⟨Nat.le_trans (S6d.out) G7'.size⟩
               obtain ⟨d0', d1', d2'⟩ := RB7.out.row1
               clear O7' G7')
            | (refine step_append_mine (base := base) (own := w2.heap.size) (n := out.length) (m := at_) (v := .slice Ao out.length co) (xs := rowCells out) (ys := rowCells (rest.take at_)) rfl (.tmp 44) (.tmp 47) 37 rfl elt_row rfl rfl (O6d.out.alloc _) (RPd.out.alloc _) (row_one _) (by simp only [maxLen]; omega) (by omega) (Nat.le_trans S6d.out (by simp)) ?_
               intro v7 w7 O7' G7'
               obtain ⟨A7, c7, rfl, _⟩ := Rd.of_own (base := base) O7'
               have O7 := Asd.mk O7'
               have RB7 := Asd.mk (Rd.keepO (RBd.out.alloc _) (O6d.out.alloc _) G7' (fun a e j hj => by cases e; have := (NE.out j hj).2; simp at *; omega))
               have R7 := Asd.mk (Rd.keepO (Rdd.out.alloc _) (O6d.out.alloc _) G7' (fun a e j hj => by have := (NE.out j hj).1; have := AW.out a e; omega))
               have B7 := Asd.mk ((B6d.out.alloc (by have := B6.out.size; simpa using this) _).grown G7' (by have := B6.out.size; simp; omega) (fun j hj => by have := (NE.out j hj).1; omega))
               have S7 : Asd (w2.heap.size ≤ w7.heap.size) := ⟨Nat.le_trans (Nat.le_trans S6d.out (by simp)) G7'.size⟩
               have NB7 := Asd.mk (Rd.keepO (Rd.new_ (base := base) (k := 3) (n := 1) (xs := rowCells [y]) rfl rfl) (O6d.out.alloc _) G7' (fun a e j hj => by cases e; have := (NE.out j hj).2; simp at *; omega))
               obtain ⟨d0', d1', d2'⟩ := RB7.out.row1
               clear O7' G7')
            | (refine step_append_mine (base := base) (own := w2.heap.size) (n := out.length + at_) (m := 1) (v := .slice A7 (out.length + at_) c7) (xs := rowCells out ++ rowCells (rest.take at_)) (ys := rowCells [y]) rfl (.tmp 48) (.tmp 50) 37 rfl elt_row rfl rfl (by first | exact O7.out | exact O7.out.alloc _) (by first | exact NB7.out | exact Rd.new_ rfl rfl) (row_one _) (by simp only [maxLen]; omega) (by omega) (by first | exact S7.out | exact Nat.le_trans S7.out (by simp)) ?_
               intro v8 w8 O8' G8'
               obtain ⟨A8, c8, rfl, _⟩ := Rd.of_own (base := base) O8'
               have O8 := Asd.mk O8'
               have R8 := Asd.mk (Rd.keepO (by first | exact R7.out | exact R7.out.alloc _) (by first | exact O7.out | exact O7.out.alloc _) G8' (fun a e j hj => by have := (O7.out.lt j hj).1; have := AW.out a e; omega))
               have B8 := Asd.mk (Below.grown (by first | exact B7.out | exact B7.out.alloc B7.out.size _) G8' (by have := B7.out.size; simp; omega) (fun j hj => by have := (O7.out.lt j hj).1; omega))
               have S8 : Asd (w2.heap.size ≤ w8.heap.size) := ⟨Nat.le_trans S7.out (Nat.le_trans (by simp) G8'.size)⟩
               clear O8' G8' R7 B7 S7 O7))
          all_goals
            cases th with
            | true =>
              have h1 := hth rfl
              have FIN := Asd.mk (take_round (at2 := at_ + 1) (by simpa using ST2.out) O8.out R8.out hpl (hth rfl) AW.out hlt B8.out S8.out)
              by_cases hca : cr = at_ + 1
              · go_wp2_with fail
                have F := FIN.out
                rw [if_pos hca, show cr - (at_ + 1) = 0 by omega] at F
                exact ⟨F, by simp [intOf]; omega⟩
              · go_wp2_with fail
                have F := FIN.out
                rw [if_neg hca] at F
                exact ⟨F, by simp [intOf]; omega⟩
            | false =>
              have FIN := Asd.mk (take_round (at2 := at_) (by simpa using ST2.out) O8.out R8.out hpl hpl AW.out hlt B8.out S8.out)
              by_cases hca : cr = at_
              · go_wp2_with fail
                have F := FIN.out
                rw [if_pos hca, show cr - at_ = 0 by omega] at F
                exact ⟨F, by simp [intOf]; omega⟩
              · go_wp2_with fail
                have F := FIN.out
                rw [if_neg hca] at F
                exact ⟨F, by simp [intOf]; omega⟩
        · obtain rfl : k = n := by omega
          have hst := ST.out
          rw [List.take_of_length_le (by rw [N.out]; exact Nat.le_refl _)] at hst
          have hmp : mergeP l rows = out ++ rest := by unfold mergeP; rw [hst]
          have hol : out.length + rest.length ≤ l.length + k := by
            have := mState_len l rows
            rw [hst, N.out] at this
            exact this
          have hms := merge_sorted H.out.srt SRT.out
          rw [hmp] at hms
          have hpp : p = if 4096 < out.length + rest.length then (22, l) else (0, out ++ rest) := P.out.symm.trans (by
            unfold takeP
            rw [if_neg (by rw [ANY.out]; simp), if_neg (fun h => h SRT.out), hmp, List.length_append])
          have PP := Asd.mk hpp
          have MS := Asd.mk hms
          clear hst hmp hpp hms
          have hcap9 : (out.length + rest.length) * 40 ≤ 140737488355328 := by omega
          by_cases hb9 : 4096 < out.length + rest.length
          · have hb9' : (4096 : Int) < (out.length : Int) + (rest.length : Int) := by omega
            go_wp2_with (at_builtin; refine wpList_append_mine (base := base) (own := w2.heap.size) (n := out.length) (m := rest.length) (v := .slice Ao out.length co) (xs := rowCells out) (ys := rowCells rest) rfl (.tmp 59) (.tmp 60) 37 rfl elt_row rfl rfl OW.out RW.out (row_one _) (by simp only [maxLen]; omega) hcap9 SW.out ?_; intro v9 w9 O9' G9'; obtain ⟨A9, c9, rfl, R9'⟩ := Rd.of_own (base := base) O9'; rw [show rowCells out ++ rowCells rest = rowCells (out ++ rest) from by simp [rowCells]] at O9' R9'; have O9 := Asd.mk O9'; have R9 := Asd.mk R9'; have B9 := Asd.mk (BW.out.grown G9' BW.out.size (fun j hj => Nat.le_trans hs2 (OW.out.lt j hj).1)); have hcg9 := (H.out.below B9.out).cell; have hfz9 : w9.frozen? ⟨g, 0, none⟩ = false := (by simp [World.frozen?, (H.out.below B9.out).blk]); clear O9' G9' R9')
            go_ret
            exact SAME.out _ B9.out _ (PP.out.trans (if_pos hb9))
          · have hb9' : ¬ (4096 : Int) < (out.length : Int) + (rest.length : Int) := by omega
            go_wp2_with (at_builtin; refine wpList_append_mine (base := base) (own := w2.heap.size) (n := out.length) (m := rest.length) (v := .slice Ao out.length co) (xs := rowCells out) (ys := rowCells rest) rfl (.tmp 59) (.tmp 60) 37 rfl elt_row rfl rfl OW.out RW.out (row_one _) (by simp only [maxLen]; omega) hcap9 SW.out ?_; intro v9 w9 O9' G9'; obtain ⟨A9, c9, rfl, R9'⟩ := Rd.of_own (base := base) O9'; rw [show rowCells out ++ rowCells rest = rowCells (out ++ rest) from by simp [rowCells]] at O9' R9'; have O9 := Asd.mk O9'; have R9 := Asd.mk R9'; have B9 := Asd.mk (BW.out.grown G9' BW.out.size (fun j hj => Nat.le_trans hs2 (OW.out.lt j hj).1)); have hcg9 := (H.out.below B9.out).cell; have hfz9 : w9.frozen? ⟨g, 0, none⟩ = false := (by simp [World.frozen?, (H.out.below B9.out).blk]); clear O9' G9' R9')
            go_ret
            have hp9 := PP.out.trans (if_neg hb9)
            subst hp9
            have hT9 := H.out.below B9.out
            refine ⟨rfl, gb_setg (gb_below B9.out _) _, A9, c9, ⟨?_, H.out.ge, ?_, MS.out, by rw [List.length_append]; omega, fun a ha => ?_⟩, Fr.own O9.out hs2⟩
            · simp [World.setCell, Array.getElem?_modify, hT9.blk]
            · rw [List.length_append]
              exact R9.out.setCell (p := ⟨g, 0, none⟩) hT9.blk (by decide) H.out.ge _
            · have := (O9.out.lt a.block (by rw [ha]; rfl)).2
              simpa [World.setCell] using this
end Go.Proofs.Ytehfaeafefkngaa

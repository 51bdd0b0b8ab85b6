/- The document's Parts. -/
import Derived.Test.YtgiajfgeplekbaaQ2
import Derived.Test.YtgiajfgeplekbaaH7
import Derived.Test.YtgiajfgeplekbaaH3
import Derived.Test.YtgiajfgeplekbaaDc
set_option linter.unusedVariables false
set_option linter.unusedSimpArgs false
namespace Go.Proofs.Ytgiajfgeplekbaa
open Go.RowKit

theorem sCells_len (l : List SpanR) : (sCells l).length = l.length * 2 := flat_len SpanR.enc 2 (fun _ => rfl) l
theorem sCells_setTo (L : List SpanR) (F T K : ByteArray) : (sCells (L ++ [⟨F, T⟩])).set (L.length * 2 + 1) (.string K) = sCells (L ++ [⟨F, K⟩]) := by
  have h1 : ∀ T, sCells (L ++ [⟨F, T⟩]) = sCells L ++ [.string F, .string T] := fun T => by simp [sCells, SpanR.enc]
  rw [h1, h1, List.set_append_right _ _ (by rw [sCells_len]; omega), sCells_len, show L.length * 2 + 1 - L.length * 2 = 1 by omega]
  rfl
/-- What the parts are while the rows are gone through. -/
def upP (rows : List Rw) (mn j : Nat) : List SpanR := outP rows mn j ++ [⟨keyAt rows (j * mn), ⟨#[]⟩⟩]
theorem outP_len (rows : List Rw) (mn j : Nat) : (outP rows mn j).length = j := by simp [outP]
theorem upP_len (rows : List Rw) (mn j : Nat) : (upP rows mn j).length = j + 1 := by simp [upP, outP_len]
theorem upP_next (rows : List Rw) (mn j : Nat) : outP rows mn j ++ [⟨keyAt rows (j * mn), keyAt rows ((j + 1) * mn)⟩] ++ [⟨keyAt rows ((j + 1) * mn), ⟨#[]⟩⟩] = upP rows mn (j + 1) := by
  unfold upP
  rw [outP_snoc]
  rfl
theorem own_made1 (w : World) {base : Nat} {T : TypeId} (hb : base ≤ w.heap.size) (cs : Array Value) (k : Nat) (hs : cs.size = k) : (w.alloc (.cells cs T)).ownsRow base T k (.slice (some ⟨w.heap.size, 0, none⟩) 1 1) 1 cs.toList :=
  ⟨by simp [hs], .inr ⟨w.heap.size, 1, cs, rfl, hb, heap_alloc_new w _, Nat.le_refl _, by simp [maxLen], by simp [hs], by rw [List.take_of_length_le (by simp [hs])]⟩⟩

set_option maxHeartbeats 8000000 in
set_option maxRecDepth 100000 in
theorem RefParts_calls {base : Nat} {w : World} {B : Option Addr} {n d : Nat} {rows : List Rw} (hr : Rd base 29 w 3 B n d (rowCells rows)) (hn : n ≤ 100000) (most : Int) (hmb : most ≤ 9223372036854775807) :
    Calls Try.prog 20 #[.slice B n d, .int .i64 most] w (PartsPost w rows most) := by
  have hcn := hr.count (enc := Rw.enc) (fun _ => rfl) (by omega)
  have RR := Asd.mk hr
  have N := Asd.mk hcn
  clear hr hcn
  go_enter Try.func20, Try.ntmps20
  go_wp2_with fail
  refine (RefWrong_calls RR.out hn).mono ?_
  rintro e w1 ⟨rfl, hb1⟩
  have B1 := Asd.mk hb1
  clear hb1
  by_cases he : wrongP rows = 0
  · have HE := Asd.mk he
    rw [he]
    clear he
    by_cases hm : most < 1
    · have hp : perrP rows most = 1 := by unfold perrP; rw [if_pos HE.out, if_pos hm]
      have PE := Asd.mk hp
      clear hp
      go_wp2_with fail
      go_ret2
      refine ⟨none, 0, 0, by rw [PE.out]; rfl, B1.out, ?_⟩
      unfold partsR
      rw [PE.out, if_neg (by omega)]
      exact World.ownsRow_nil _ _ _ _
    · have hp : perrP rows most = 0 := by unfold perrP; rw [if_pos HE.out, if_neg hm]
      have PE := Asd.mk hp
      obtain ⟨mn, rfl⟩ : ∃ mn : Nat, most = mn := ⟨most.toNat, by omega⟩
      have hmn : 1 ≤ mn := by omega
      clear hp
      have hal : Below w1.heap.size w1 (w1.alloc (.cells #[.string ⟨#[]⟩, .string ⟨#[]⟩] 39)) := (Below.refl _ _).alloc (Nat.le_refl _) _
      have B2 := Asd.mk (B1.out.trans (hal.mono B1.out.size))
      have O2 : Asd ((w1.alloc (.cells #[.string ⟨#[]⟩, .string ⟨#[]⟩] 39)).ownsRow w.heap.size 39 2 (.slice (some ⟨w1.heap.size, 0, none⟩) 1 1) 1 (sCells (upP rows mn 0))) := ⟨by
        have h := own_made1 w1 (base := w.heap.size) (T := 39) B1.out.size #[.string ⟨#[]⟩, .string ⟨#[]⟩] 2 rfl
        have e : sCells (upP rows mn 0) = [Value.string ⟨#[]⟩, .string ⟨#[]⟩] := by simp [upP, outP, sCells, SpanR.enc, keyAt]
        rw [e]
        exact h⟩
      clear hal
      go_wp2_with fail
      generalize (w1.alloc (.cells #[.string ⟨#[]⟩, .string ⟨#[]⟩] 39)) = w2 at *
      go_loopw [7, 8] (fun s7 s8 wr => ∃ (j i g co : Nat), s7 = .slice (some ⟨g, 0, none⟩) (j + 1) co ∧ s8 = .int .i64 i ∧ 1 ≤ i ∧ (i ≤ n ∨ i = 1) ∧ Asd (j * mn < i ∧ i ≤ (j + 1) * mn) ∧ j < i ∧ Asd (Below w.heap.size w wr) ∧ Asd (wr.ownsRow w.heap.size 39 2 (.slice (some ⟨g, 0, none⟩) (j + 1) co) (j + 1) (sCells (upP rows mn j)))) (fun _ s8 _ => n - (intOf s8).toNat)
      case atStart => exact ⟨0, 1, w1.heap.size, 1, rfl, rfl, by omega, .inr rfl, ⟨by omega⟩, by omega, B2, O2⟩
      case round =>
        clear O2 B2
        obtain ⟨j, i, g, co, rfl, rfl, hi1, hin, JJ, hji, BW, OW⟩ := hrel
        by_cases hlt : i < n
        · have hil : i < rows.length := by have := N.out; omega
          obtain ⟨rb, ro, rfl, _, _, k0, _, _⟩ := (RR.out.below BW.out).row hlt
          have hcap : i < d := Nat.lt_of_lt_of_le hlt RR.out.cap
          have hka : keyAt rows i = rows[i].key := by
            unfold keyAt
            rw [if_neg (by omega), List.getD_eq_getElem?_getD, List.getElem?_eq_getElem hil]
            rfl
          rw [← hka] at k0
          have hsm : (j + 1) * mn = j * mn + mn := Nat.succ_mul j mn
          have hm0 : ¬ (mn : Int) = 0 := by omega
          have hmb0 : ((mn : Int) == 0) = false := by rw [beq_eq_false_iff_ne]; omega
          by_cases hmod : i = (j + 1) * mn
          · have hq : (i : Int) % (mn : Int) = 0 := by
              rw [hmod, Int.natCast_mul, Int.mul_emod_left]
            have hqb : ((i : Int) % (mn : Int) == 0) = true := by rw [hq]; rfl
            have hjo : (j + 1 : Nat) ≤ co := by
              obtain ⟨_, _, e, hr⟩ := Rd.of_own (base := w.heap.size) OW.out
              injection e with _ _ e
              subst e
              exact hr.cap
            have hbnd : j < 100000 := by omega
            have hjc : j < co := by omega
            have hlast : (j : Int) + 1 - 1 = (j : Int) := by omega
            have hlw : IntKind.i64.wrap ((j : Int) + 1 - 1) = (j : Int) := by rw [hlast]; exact IntWalk.i64_in _ (by omega)
            have hlw2 : wrap64 ((j : Int) + 1 - 1) = (j : Int) := by rw [hlast]; exact (wrapIn (by omega)).1
            obtain ⟨cur, hh, hcs⟩ : ∃ cur, wr.heap[g]? = some (.cells cur 39 (0, 0)) ∧ cur.size = co * 2 := by
              rcases OW.out.2 with ⟨h1, _⟩ | ⟨g', cap, cur, hv, hgb, hh, _, _, hz, _⟩
              · cases h1
              · injection hv with hv _ hv3
                injection hv with hv
                injection hv with hv _ _
                subst hv hv3
                exact ⟨cur, hh, hz⟩
            have e1 : wr.cell? ⟨g, j * 2 + 1, none⟩ = some (cur[j * 2 + 1]'(by omega)) := (cell_of_row _ _ _ _ _ _ hh).trans (Array.getElem?_eq_getElem (by omega))
            have f1 : wr.frozen? ⟨g, j * 2 + 1, none⟩ = false := frozen_of_row _ _ _ _ _ hh
            generalize (cur[j * 2 + 1]'(by omega)) = v1 at e1
            have hgb : w.heap.size ≤ g := (OW.out.lt g rfl).1
            have O3 := own_put (j := j * 2 + 1) OW.out (by omega) (.string (keyAt rows i))
            have hset : (sCells (upP rows mn j)).set (j * 2 + 1) (.string (keyAt rows i)) = sCells (outP rows mn j ++ [⟨keyAt rows (j * mn), keyAt rows i⟩]) := by
              have h := sCells_setTo (outP rows mn j) (keyAt rows (j * mn)) ⟨#[]⟩ (keyAt rows i)
              rw [outP_len] at h
              exact h
            rw [hset] at O3
            have OO := Asd.mk O3
            have B3 := Asd.mk (BW.out.setCell (p := ⟨g, j * 2 + 1, none⟩) hgb (.string (keyAt rows i)))
            have k1 : (wr.setCell ⟨g, j * 2 + 1, none⟩ (.string (keyAt rows i))).cell? ⟨rb, ro + i * 3, none⟩ = some (.string (keyAt rows i)) := by
              obtain ⟨rb', ro', hA', _, _, k0', _, _⟩ := (RR.out.below B3.out).row hlt
              cases hA'
              rw [k0', hka]
            have NX : Asd (sCells (outP rows mn j ++ [⟨keyAt rows (j * mn), keyAt rows i⟩]) ++ sCells [⟨keyAt rows i, ⟨#[]⟩⟩] = sCells (upP rows mn (j + 1))) := ⟨by
              rw [hmod, ← upP_next]
              simp [sCells]⟩
            have JN : Asd ((j + 1) * mn < i + 1 ∧ i + 1 ≤ (j + 1 + 1) * mn) := ⟨by
              have := Nat.succ_mul (j + 1) mn
              rw [Nat.succ_eq_add_one] at this
              omega⟩
            generalize keyAt rows i = K at *
            clear hka hset O3 hh hcs hmod hsm hjo hlast JJ OW
            go_wp2_with (at_builtin; refine wpList_append_mine (base := base) (own := w.heap.size) (n := j + 1) (m := 1) (v := .slice (some ⟨g, 0, none⟩) (j + 1) co) (xs := sCells (outP rows mn j ++ [⟨keyAt rows (j * mn), K⟩])) (ys := sCells [⟨K, ⟨#[]⟩⟩]) rfl (.tmp 39) (.tmp 46) 33 rfl elt_span rfl rfl (OO.out.alloc _) (Rd.new2 (by simp) rfl rfl) (span_one _) (by unfold maxLen; omega) (by omega) (Nat.le_trans B3.out.size (by simp)) ?_; intro v8 w8 O8' G8'; obtain ⟨P8, c8, rfl, _⟩ := Rd.of_own (base := base) O8'; have O8 := Asd.mk O8'; have B8 := Asd.mk ((B3.out.alloc B3.out.size (.cells #[.string K, .string ⟨#[]⟩] 39)).grown G8' (Nat.le_trans B3.out.size (by simp)) (fun j hj => (OO.out.lt j hj).1)); clear O8' G8')
            go_roundw
            case measure => simp [intOf]; omega
            case rel =>
              have O9 := O8.out
              rw [NX.out] at O9
              obtain ⟨g8, rfl⟩ : ∃ g8, P8 = some ⟨g8, 0, none⟩ := by
                rcases O9.2 with ⟨_, h⟩ | ⟨g', _, _, hv, _⟩
                · omega
                · injection hv with hv _ _
                  exact ⟨g', hv⟩
              exact ⟨j + 1, i + 1, g8, c8, rfl, by go_num, by omega, by omega, JN, by omega, B8, ⟨O9⟩⟩
          · have hlt2 : j * mn < i ∧ i < (j + 1) * mn := by have := JJ.out; omega
            have hq : ¬ (i : Int) % (mn : Int) = 0 := by
              rw [← Int.natCast_emod]
              have h1 : i % mn = i - j * mn := by
                have : i = (i - j * mn) + j * mn := by omega
                rw [this, Nat.add_mul_mod_self_right, Nat.mod_eq_of_lt (by omega)]
                omega
              omega
            have hqb : ((i : Int) % (mn : Int) == 0) = false := by rw [beq_eq_false_iff_ne]; exact hq
            have JN : Asd (j * mn < i + 1 ∧ i + 1 ≤ (j + 1) * mn) := ⟨by omega⟩
            clear hmod hlt2 hsm hka k0 JJ
            go_wp2_with fail
            go_roundw
            case measure => simp [intOf]; omega
            case rel => exact ⟨j, i + 1, g, co, rfl, by go_num, by omega, by omega, JN, by omega, BW, OW⟩
        · have hJ : partsN rows mn = j := partsN_of hmn (by
            have h1 := JJ.out
            have h2 := N.out
            rcases Nat.eq_zero_or_pos j with h | h
            · exact .inl h
            · refine .inr ?_
              rcases hin with h3 | h3
              · omega
              · omega) (by
            have h1 := JJ.out
            have h2 := N.out
            have h3 := Nat.succ_mul j mn
            rw [Nat.succ_eq_add_one] at h3
            omega)
          have OF : Asd (wr.ownsRow w.heap.size 39 2 (.slice (some ⟨g, 0, none⟩) (j + 1) co) (j + 1) (sCells (partsR rows (mn : Int)))) := ⟨by
            unfold partsR
            rw [if_pos PE.out, Int.toNat_natCast, partsL, hJ]
            exact OW.out⟩
          clear hJ JJ OW
          go_wp2_with fail
          go_ret2
          exact ⟨some ⟨g, 0, none⟩, j + 1, co, by rw [PE.out]; rfl, BW.out, OF.out⟩
  · have hne : (wrongP rows == 0) = false := by rw [beq_eq_false_iff_ne]; exact he
    have hne2 : (wrongP rows != 0) = true := by rw [bne_iff_ne]; exact he
    have PE : Asd (perrP rows most = wrongP rows) := ⟨by unfold perrP; rw [if_neg he]⟩
    have RZ : Asd (partsR rows most = []) := ⟨by unfold partsR; rw [PE.out, if_neg he]⟩
    generalize hz : wrongP rows = z at hne hne2 ⊢
    have ZZ := Asd.mk hz
    clear hz he
    go_wp2_with fail
    go_ret2
    refine ⟨none, 0, 0, by rw [PE.out, ZZ.out]; rfl, B1.out, ?_⟩
    rw [RZ.out]
    exact World.ownsRow_nil _ _ _ _
end Go.Proofs.Ytgiajfgeplekbaa

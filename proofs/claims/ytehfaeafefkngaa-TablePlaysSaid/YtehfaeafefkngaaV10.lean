/- The document's Take. -/
import Derived.Test.YtehfaeafefkngaaVp
set_option linter.unusedVariables false
set_option linter.unusedSimpArgs false
namespace Go.Proofs.Ytehfaeafefkngaa
open Go.RowKit

def RTakePost (base : Nat) (w : World) (A : Option Addr) (g : Nat) (p : Int × List Rw) (e : Ending) (w' : World) : Prop :=
  e = .returned (.int .i64 p.1) ∧ w.grownBy w' (some g) ∧ ∃ A' c', RTab base w' g p.2 A' c' ∧ Fr w A A'
theorem wrapJ {z : Int} (h : -1000000 ≤ z ∧ z ≤ 1000000) : wrap64 z = z ∧ IntKind.i64.wrap z = z := by
  have h1 : wrap64 z = z := by unfold wrap64; omega
  exact ⟨h1, IntWalk.i64_in _ (by omega)⟩

set_option maxHeartbeats 8000000 in
set_option maxRecDepth 100000 in
theorem RTake_calls {base g c : Nat} {w : World} {l : List Rw} {A : Option Addr} (h : RTab base w g l A c) {B : Option Addr} {n d : Nat} {rows : List Rw} (hr : Rd base 53 w 3 B n d (rowCells rows)) (hn : n ≤ 4096) :
    Calls Try.prog 50 #[.pointer (some ⟨g, 0, none⟩), .slice B n d] w (RTakePost base w A g (takeP l rows)) := by
  have hcnt := hr.count (enc := Rw.enc) (fun _ => rfl) (by omega)
  have H := Asd.mk h
  have R := Asd.mk hr
  have N := Asd.mk hcnt
  have hgl := h.lt
  have hbig := h.big
  generalize hp : takeP l rows = p
  have P := Asd.mk hp
  clear h hr hcnt hp
  have same : ∀ (W : World) (z : Int), Below w.heap.size w W → p = (z, l) → RTakePost base w A g p (.returned (.int .i64 z)) W := fun W z hW hz => by
    subst hz
    exact ⟨rfl, gb_below hW _, A, c, H.out.below hW, .inl rfl⟩
  have SAME := Asd.mk same
  clear same
  go_enter Try.func50, Try.ntmps50
  go_wp2_with fail
  go_loopw [5] (fun s5 wr => ∃ k : Nat, s5 = .int .i64 k ∧ k ≤ n ∧ Asd (Below w.heap.size w wr) ∧ Asd (∀ r ∈ rows.take k, rowOk r = true)) (fun s5 _ => n - (intOf s5).toNat)
  case atStart => exact ⟨0, rfl, by omega, ⟨Below.refl _ _⟩, ⟨fun r h => by simp at h⟩⟩
  case round =>
    obtain ⟨k, rfl, hkn, BW, IW⟩ := hrel
    by_cases hlt : k < n
    · have hil : k < rows.length := by have := N.out; omega
      obtain ⟨b, off, rfl, _, _, c0, c1, c2⟩ := (R.out.below BW.out).row hlt
      have hcap : k < d := Nat.lt_of_lt_of_le hlt R.out.cap
      have hta : rowOk rows[k] = true → ∀ r ∈ rows.take (k + 1), rowOk r = true := fun h r hr => by
        rw [List.take_succ_eq_append_getElem hil] at hr
        rcases List.mem_append.1 hr with h1 | h1
        · exact IW.out r h1
        · rw [List.mem_singleton] at h1; subst h1; exact h
      have hbad : rowOk rows[k] = false → p = (80, l) := fun h => P.out ▸ takeP_bad (List.getElem_mem hil) h
      have hc := MayRow_calls rows[k] wr
      generalize rows[k] = y at c0 c1 c2 hta hbad hc
      unfold Rw.enc at hc
      have TA := Asd.mk hta
      have BD := Asd.mk hbad
      clear hta hbad
      cases hq : rowOk y with
      | true =>
        rw [hq] at hc
        have C := Asd.mk hc
        have T2 := Asd.mk (TA.out hq)
        clear hc hq
        go_wp2_with fail
        refine C.out.mono ?_
        rintro e w' ⟨rfl, hb'⟩
        go_wp2_with fail
        go_roundw
        case measure => simp [intOf]; omega
        case rel => exact ⟨k + 1, by go_num, by omega, ⟨BW.out.trans (hb'.mono BW.out.size)⟩, T2⟩
      | false =>
        rw [hq] at hc
        have C := Asd.mk hc
        have T2 := Asd.mk (BD.out hq)
        clear hc hq
        go_wp2_with fail
        refine C.out.mono ?_
        rintro e w' ⟨rfl, hb'⟩
        go_wp2_with fail
        go_ret
        exact SAME.out _ _ (BW.out.trans (hb'.mono BW.out.size)) T2.out
    · have ALL : Asd (∀ r ∈ rows, rowOk r = true) := ⟨by
        have h := IW.out
        rwa [List.take_of_length_le (by have := N.out; omega)] at h⟩
      clear IW
      go_wp2_with fail
      go_loopw [6, 7] (fun s6 s7 wv => ∃ (k : Nat) (v : Nat), s6 = .int .i64 v ∧ s7 = .int .i64 k ∧ k ≤ n ∧ v ≤ k ∧ Asd (v = freshN l (rows.take k)) ∧ Asd (Below w.heap.size w wv) ∧ Asd (Sorted (rows.take k))) (fun _ s7 _ => n - (intOf s7).toNat)
      case atStart => exact ⟨0, 0, rfl, rfl, by omega, by omega, ⟨rfl⟩, BW, ⟨List.Pairwise.nil⟩⟩
      case round =>
        clear BW
        obtain ⟨k, v, rfl, rfl, hkn1, hvk, VF, BW, SO⟩ := hrel
        by_cases hlt2 : k < n
        · have hil : k < rows.length := by have := N.out; omega
          obtain ⟨b, off, rfl, hbl, _, c0, _, _⟩ := (R.out.below BW.out).row hlt2
          have hcap : k < d := Nat.lt_of_lt_of_le hlt2 R.out.cap
          have hkey : ∀ W, Below wr.heap.size wr W → W.cell? ⟨b, off + k * 3, none⟩ = some (.string rows[k].key) := fun W hW => by
            obtain ⟨b', off', hA, _, _, c0, _, _⟩ := (R.out.below (BW.out.trans (hW.mono BW.out.size))).row hlt2
            cases hA
            exact c0
          have hfin : ∀ W, Below w.heap.size w W → Calls Try.prog 64 #[.pointer (some ⟨g, 0, none⟩), .string rows[k].key] W fun e w' => e = .returned (.tuple #[.int .i64 (pos rows[k].key l), .bool (there rows[k].key l)]) ∧ Below W.heap.size W w' := fun W hW => Find_calls (H.out.below hW) _
          have hfr : freshN l (rows.take (k + 1)) = freshN l (rows.take k) + (if there rows[k].key l = true then 0 else 1) := by rw [List.take_succ_eq_append_getElem hil, freshN_snoc]
          have KEY := Asd.mk hkey
          have FN := Asd.mk hfin
          have FR := Asd.mk hfr
          clear hkey hfin hfr
          by_cases hk0 : k = 0
          · subst hk0
            have SN : Asd (Sorted (rows.take (0 + 1))) := ⟨sorted_snoc' SO.out hil (fun j hj => by omega)⟩
            generalize rows[0].key = y at c0 KEY FN FR
            go_wp2_with fail
            go_quiet (fail)
            have B5 := Asd.mk (below_dn (B := wr.heap.size) wr nq)
            have c5 := KEY.out _ B5.out
            rw [Nat.zero_mul, Nat.add_zero] at c5
            generalize wr.drewN nq = w5 at *
            go_wp2_with fail
            refine (FN.out _ (BW.out.trans (B5.out.mono BW.out.size))).mono ?_
            rintro e w6 ⟨rfl, hb6⟩
            have B6 := Asd.mk ((BW.out.trans (B5.out.mono BW.out.size)).trans (hb6.mono (BW.out.trans (B5.out.mono BW.out.size)).size))
            clear c0 c5 hb6
            cases ht : there y l with
            | true =>
              have V2 : Asd (v = freshN l (rows.take (0 + 1))) := ⟨by rw [FR.out, if_pos ht, VF.out, Nat.add_zero]⟩
              clear ht
              go_wp2_with fail
              go_roundw
              case measure => simp [intOf]; omega
              case rel => exact ⟨0 + 1, v, rfl, by go_num, by omega, by omega, V2, B6, SN⟩
            | false =>
              have V2 : Asd (v + 1 = freshN l (rows.take (0 + 1))) := ⟨by rw [FR.out, if_neg (by rw [ht]; decide), VF.out]⟩
              clear ht
              go_wp2_with fail
              go_roundw
              case measure => simp [intOf]; omega
              case rel => exact ⟨0 + 1, v + 1, by go_num, by go_num, by omega, by omega, V2, B6, SN⟩
          · obtain ⟨j, hj⟩ : ∃ j, j + 1 = k := ⟨k - 1, by omega⟩
            have hjl : j < rows.length := by omega
            have hjn : j < n := by omega
            have hjd : j < d := by omega
            have d0 : wr.cell? ⟨b, off + j * 3, none⟩ = some (.string rows[j].key) := by
              obtain ⟨b', off', hA, _, _, c0, _, _⟩ := (R.out.below BW.out).row hjn
              cases hA
              exact c0
            have hsn : klt rows[j].key rows[k].key → Sorted (rows.take (k + 1)) := fun h => sorted_snoc' SO.out hil (fun j' hj' => (by have e : j' = j := (by omega); subst e; exact h))
            have hno : ¬ klt rows[j].key rows[k].key → p = (4, l) := fun h => P.out ▸ takeP_shape ALL.out (fun hs => h (List.pairwise_iff_getElem.1 hs j k hjl hil (by omega)))
            generalize rows[j].key = x at d0 hsn hno
            generalize rows[k].key = y at c0 hsn hno KEY FN FR
            have l1 := less_eq x y
            have hij : (k : Int) - 1 = (j : Int) := by omega
            have hw1 : wrap64 ((k : Int) - 1) = (j : Int) := by rw [hij]; exact (wrapJ (by omega)).1
            have hw2 : IntKind.i64.wrap ((k : Int) - 1) = (j : Int) := by rw [hij]; exact (wrapJ (by omega)).2
            have hk1 : 1 ≤ k := by omega
            have hki : (0 : Int) < (k : Int) := by omega
            have hkd : decide (0 < k) = true := decide_eq_true (by omega)
            have hkd2 : decide ((0 : Int) < (k : Int)) = true := decide_eq_true (by omega)
            have SN := Asd.mk hsn
            have NO := Asd.mk hno
            have HJ := Asd.mk hj
            clear hij hsn hno hj hk0
            by_cases hl : klt x y
            · rw [decide_eq_true hl] at l1
              have S2 := Asd.mk (SN.out hl)
              clear hl
              go_wp2_with fail
              go_quiet (fail)
              have B5 := Asd.mk (below_dn (B := wr.heap.size) wr nq)
              have c5 := KEY.out _ B5.out
              clear hw1 hw2 d0 c0
              generalize wr.drewN nq = w5 at *
              go_wp2_with fail
              refine (FN.out _ (BW.out.trans (B5.out.mono BW.out.size))).mono ?_
              rintro e w6 ⟨rfl, hb6⟩
              have B6 := Asd.mk ((BW.out.trans (B5.out.mono BW.out.size)).trans (hb6.mono (BW.out.trans (B5.out.mono BW.out.size)).size))
              clear c5 hb6
              cases ht : there y l with
              | true =>
                have V2 : Asd (v = freshN l (rows.take (k + 1))) := ⟨by rw [FR.out, if_pos ht, VF.out]; rfl⟩
                clear ht
                go_wp2_with fail
                go_roundw
                case measure => simp [intOf]; omega
                case rel => exact ⟨k + 1, v, rfl, by go_num, by omega, by omega, V2, B6, S2⟩
              | false =>
                have V2 : Asd (v + 1 = freshN l (rows.take (k + 1))) := ⟨by rw [FR.out, if_neg (by rw [ht]; decide), VF.out]⟩
                clear ht
                go_wp2_with fail
                go_roundw
                case measure => simp [intOf]; omega
                case rel => exact ⟨k + 1, v + 1, by go_num, by go_num, by omega, by omega, V2, B6, S2⟩
            · rw [decide_eq_false hl] at l1
              have D := Asd.mk (NO.out hl)
              clear hl
              go_wp2_with fail
              go_quiet (fail)
              have B5 := Asd.mk (BW.out.trans (below_dn (B := w.heap.size) wr nq))
              clear hw1 hw2 d0 c0
              generalize wr.drewN nq = w5 at *
              go_wp2_with fail
              go_ret
              exact SAME.out _ _ B5.out D.out
        · have hke : rows.take k = rows := List.take_of_length_le (by have := N.out; omega)
          have SR : Asd (Sorted rows) := ⟨by have h := SO.out; rwa [hke] at h⟩
          have VR : Asd (v = freshN l rows) := ⟨by have h := VF.out; rwa [hke] at h⟩
          have TF : Asd (p = if 4096 < l.length + freshN l rows then (22, l) else (0, putAll l rows)) := ⟨by rw [← P.out]; exact takeP_full H.out.srt ALL.out SR.out⟩
          clear hke SO VF
          have hcg := (H.out.below BW.out).cell
          have hw1 : wrap64 ((l.length : Int) + (v : Int)) = (l.length : Int) + (v : Int) := (wrapJ (by omega)).1
          have hw2 : IntKind.i64.wrap ((l.length : Int) + (v : Int)) = (l.length : Int) + (v : Int) := (wrapJ (by omega)).2
          by_cases hfull : (4096 : Int) < (l.length : Int) + (v : Int)
          · have D : Asd (p = (22, l)) := ⟨by rw [TF.out, if_pos (by have := VR.out; omega)]⟩
            go_wp2_with fail
            go_ret
            exact SAME.out _ _ BW.out D.out
          · have D : Asd (p = (0, putAll l rows)) := ⟨by rw [TF.out, if_neg (by have := VR.out; omega)]⟩
            have ROOM : Asd (l.length + freshN l rows ≤ 4096) := ⟨by have := VR.out; omega⟩
            have G1 := Asd.mk (gb_below BW.out (some g))
            have T1 : Asd (∃ Ak ck, RTab base wr g l Ak ck ∧ Fr w A Ak) := ⟨A, c, H.out.below BW.out, .inl rfl⟩
            go_wp2_with fail
            clear hw1 hw2 hfull hcg
            go_loopw [10] (fun s10 wq => ∃ k : Nat, s10 = .int .i64 k ∧ k ≤ n ∧ Asd (w.grownBy wq (some g)) ∧ Asd (∃ Ak ck, RTab base wq g (putAll l (rows.take k)) Ak ck ∧ Fr w A Ak)) (fun s10 _ => n - (intOf s10).toNat)
            case atStart => exact ⟨0, rfl, by omega, G1, T1⟩
            case round =>
              clear G1 T1 BW
              obtain ⟨q, rfl, hqn, GW, TW⟩ := hrel
              obtain ⟨Ak, ck, hTk, hFrk⟩ := TW.out
              by_cases hlq : q < n
              · have hiq : q < rows.length := by have := N.out; omega
                have hrd : Rd base 53 wr 3 B n d (rowCells rows) := R.out.grownR GW.out (fun j hj => by injection hj with hj; subst hj; exact ⟨⟨_, _, H.out.blk⟩, H.out.ge⟩) (by decide)
                obtain ⟨b, off, rfl, _, _, c0, c1, c2⟩ := hrd.row hlq
                have hcap : q < d := Nat.lt_of_lt_of_le hlq R.out.cap
                have htk : putAll l (rows.take (q + 1)) = putL (putAll l (rows.take q)) rows[q] := by rw [List.take_succ_eq_append_getElem hiq, putAll_snoc]
                have hlen : (putL (putAll l (rows.take q)) rows[q]).length ≤ 4096 := by
                  rw [← htk, putAll_len H.out.srt _ (SR.out.take _)]
                  have h1 := freshN_take_le l rows (q + 1)
                  have h2 := ROOM.out
                  omega
                have hput := Rput_calls hTk rows[q] hlen
                generalize rows[q] = y at c0 c1 c2 htk hput
                unfold Rw.enc at hput
                have PC := Asd.mk hput
                have TK := Asd.mk htk
                have FRK := Asd.mk hFrk
                clear hrd htk hlen hput hTk hFrk TW
                go_wp2_with fail
                refine PC.out.mono ?_
                rintro e w6 ⟨rfl, hg6, A6, c6, hT6, hfr6⟩
                have G6 := Asd.mk (gb_trans GW.out hg6)
                have T6 : Asd (∃ Ak ck, RTab base w6 g (putAll l (rows.take (q + 1))) Ak ck ∧ Fr w A Ak) := ⟨A6, c6, by rw [TK.out]; exact hT6, Fr.trans FRK.out hfr6 GW.out.size⟩
                clear hg6 hT6 hfr6 PC c0 c1 c2
                go_wp2_with fail
                go_roundw
                case measure => simp [intOf]; omega
                case rel => exact ⟨q + 1, by go_num, by omega, G6, T6⟩
              · have hke : rows.take q = rows := List.take_of_length_le (by have := N.out; omega)
                rw [hke] at hTk
                have TT := Asd.mk hTk
                have FRK := Asd.mk hFrk
                clear hTk hFrk TW hke
                go_wp2_with fail
                go_ret
                rw [D.out]
                exact ⟨rfl, GW.out, Ak, ck, TT.out, FRK.out⟩
end Go.Proofs.Ytehfaeafefkngaa

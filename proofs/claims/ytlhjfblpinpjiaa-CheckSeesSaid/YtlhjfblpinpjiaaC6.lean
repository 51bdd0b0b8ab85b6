/- Play: a table that does an order; the first place that was told otherwise. -/
import Derived.Test.YtlhjfblpinpjiaaC5
set_option linter.unusedVariables false
set_option linter.unusedSimpArgs false
namespace Go.Proofs.Ytlhjfblpinpjiaa
open Go.RowKit Go.Maps

theorem Hist.cells {base : Nat} {w : World} {b off n c : Nat} {hs : List CallR} (h : Hist base w (some ⟨b, off, none⟩) n c hs) {j : Nat} (hj : j < n) (hl : j < hs.length) : ∀ t v, (hs[j]).enc[t]? = some v → w.cell? ⟨b, off + j * 10 + t, none⟩ = some v := by
  obtain ⟨b', off', e, _, _, hc⟩ := h.rd.at_enc (enc := CallR.enc) (fun _ => rfl) (by omega) hj
  injection e with e
  injection e with e1 e2
  subst e1 e2
  exact hc
def rowsP0 (cs : List CallR) : List Rw := playP [] (cs.map CallR.ops)
theorem rowsP0_snoc (cs : List CallR) (x : CallR) : rowsP0 (cs ++ [x]) = (doP (rowsP0 cs) x.ops).rows := by unfold rowsP0; rw [List.map_append]; exact playP_snoc _ _ _
theorem rowsP0_sorted (cs : List CallR) : Sorted (rowsP0 cs) := playP_sorted List.Pairwise.nil _
/-- What a table that has done these answers is what the call was told. -/
def CallR.told_ (y : CallR) (cs : List CallR) : Bool := y.said (doP (rowsP0 cs) y.ops).res (doP (rowsP0 cs) y.ops).at_ (doP (rowsP0 cs) y.ops).code
/-- The i-th was told otherwise. -/
def badAt (cs : List CallR) (i : Nat) : Bool := match cs[i]? with
  | some y => decide (0 < y.told) && !y.told_ (cs.take i)
  | none => false
theorem badAt_at {cs : List CallR} {i : Nat} (hi : i < cs.length) : badAt cs i = (decide (0 < cs[i].told) && !cs[i].told_ (cs.take i)) := by
  unfold badAt
  rw [List.getElem?_eq_getElem hi]
theorem doP_res_len (l : List Rw) (ops : List OpR) : (doP l ops).res.length ≤ ops.length := by
  have h := reP_len l ops
  unfold doP
  split
  · simp
  · split
    · simp
    · split
      · simp
      · simp [h]
def PlayPost (base : Nat) (w : World) (r : Option Nat) (rows : List Rw) (e : Ending) (w' : World) : Prop :=
  Below w.heap.size w w' ∧ (∀ i, r = some i → e = .returned (.tuple #[.pointer none, .agg #[.int .i64 i, .int .i64 251]])) ∧
    (r = none → ∃ g A' c', e = .returned (.tuple #[.pointer (some ⟨g, 0, none⟩), .agg #[.int .i64 0, .int .i64 0]]) ∧ Tab base w' g rows A' c')

set_option maxHeartbeats 16000000 in
set_option maxRecDepth 100000 in
theorem play_calls {base : Nat} {w : World} {A B : Option Addr} {n c m d : Nat} {hs : List CallR} {os : List Int} (hh : Hist base w A n c hs) (ho : Ints base w B m d os) (hai : AllIn hs os) (hbs : base ≤ w.heap.size) :
    Calls Try.prog 29 #[.slice A n c, .slice B m d] w (PlayPost base w (firstI (badAt (callsOf hs os)) (callsOf hs os).length) (rowsP0 (callsOf hs os))) := by
  have hn := hh.len
  have hm := ho.len
  have hnb := hh.big
  have hmb := ho.big
  have hcl := callsOf_len hs os
  have hat := fun i (hi : i < os.length) => callsOf_at hai hi
  generalize callsOf hs os = cs at *
  generalize hf : firstI (badAt cs) cs.length = f
  have P := Asd.mk hf
  have H := Asd.mk hh
  have O := Asd.mk ho
  have N := Asd.mk hn
  have M := Asd.mk hm
  have CL := Asd.mk hcl
  have AT := Asd.mk hat
  clear hh ho hf hn hm hcl hat hai
  have NEW := Asd.mk (New_calls base (w.alloc (.cells #[.int .i64 0, .int .i64 0] 35)) (by simp; omega))
  go_enter Try.func29, Try.ntmps29
  go_wp2_with fail
  refine NEW.out.mono ?_
  rintro e w1 ⟨g, rfl, hT1, hg1, hb1⟩
  have F1 := Asd.mk ((FB.start w).next hb1)
  have hgw : w.heap.size < g := by simp at hg1; omega
  have T1 : Asd (∃ A' c', Tab base w1 g (rowsP0 (cs.take 0)) A' c') := ⟨none, 0, hT1⟩
  clear hT1 hg1 hb1 NEW
  go_wp2_with fail
  go_loopw [14] (fun s14 wr => ∃ k : Nat, s14 = .int .i64 k ∧ k ≤ m ∧ Asd (FB w wr) ∧ Asd (∃ A' c', Tab base wr g (rowsP0 (cs.take k)) A' c') ∧ Asd (∀ j, j < k → badAt cs j = false)) (fun s14 _ => m - (intOf s14).toNat)
  case atStart => exact ⟨0, rfl, Nat.zero_le _, F1, T1, ⟨fun j hj => absurd hj (Nat.not_lt_zero _)⟩⟩
  case round =>
    obtain ⟨k, rfl, hkm, FW, TW, I⟩ := hrel
    by_cases hlt : k < m
    · obtain ⟨b, off, rfl, hbl, hil, c0⟩ := (O.out.below FW.out.below).at_ hlt
      have hcd : k < d := Nat.lt_of_lt_of_le hlt O.out.rd.cap
      obtain ⟨j, hj, hck, ho1, hc1⟩ := AT.out k hil
      have hjn : j < n := by have := N.out; omega
      obtain ⟨b', off', rfl, hbl', hil', hcs⟩ := (H.out.rd.below FW.out.below).at_enc (enc := CallR.enc) (fun _ => rfl) (by omega) hjn
      have hjc : j < c := Nat.lt_of_lt_of_le hjn H.out.rd.cap
      have hag := badAt_at hck
      have hbad : badAt cs k = true → f = some k := fun e => by rw [← P.out]; exact firstI_hit hck e I.out
      have hnx : badAt cs k = false → ∀ j, j < k + 1 → badAt cs j = false := fun e j hj => by
        rcases Nat.lt_or_ge j k with h1 | h1
        · exact I.out j h1
        · obtain rfl : j = k := by omega
          exact e
      have hsn : rowsP0 (cs.take (k + 1)) = (doP (rowsP0 (cs.take k)) hs[j].ops).rows := by rw [List.take_succ_eq_append_getElem hck, rowsP0_snoc, hc1]
      have HW := Asd.mk (H.out.below FW.out.below)
      have hin := HW.out.ins _ (List.getElem_mem hj)
      have hcl5 := fun (W : World) (hW : Hist base W (some ⟨b', off', none⟩) n c hs) => hW.cells hjn hj
      have hin5 := fun (W : World) (hW : Hist base W (some ⟨b', off', none⟩) n c hs) => hW.ins _ (List.getElem_mem hj)
      rw [hag, hc1] at hbad hnx
      rw [ho1] at c0
      unfold CallR.told_ at hbad hnx
      obtain ⟨A0, c00, hT⟩ := TW.out
      have hrr := doP_res_rows hT.big hT.srt hs[j].ops
      have hrl : (doP (rowsP0 (cs.take k)) hs[j].ops).res.length ≤ 140737488355328 := Nat.le_trans (doP_res_len _ _) (by have h1 := hin.rdo.count (enc := OpR.enc) (fun _ => rfl) (by omega); have h2 := hin.obig; omega)
      generalize rowsP0 (cs.take k) = rows at hT hbad hnx hsn hrr hrl
      generalize hs[j] = y at hcs hbad hnx hsn hin hcl5 hin5 hrr hrl
      have hdo := Do_calls2 hT y.ops y.oA y.on y.oc hin.rdo hin.fits
      generalize doP rows y.ops = dd at hbad hnx hsn hdo hrr hrl
      obtain ⟨l2, res2, at2, code2⟩ := dd
      simp only at hbad hnx hsn hrr hrl
      have BAD := Asd.mk hbad
      have NX := Asd.mk hnx
      have SN := Asd.mk hsn
      have DOC := Asd.mk hdo
      have C5 := Asd.mk hcl5
      have I5 := Asd.mk hin5
      have RR := Asd.mk hrr
      have RL := Asd.mk hrl
      have hGT : Asd (∀ j, some g = some j → IsT wr j 88 ∧ base ≤ j) := ⟨fun j hj => by
        injection hj with hj
        subst hj
        exact ⟨⟨_, _, hT.blk⟩, hT.ge⟩⟩
      have e4 := hcs 4 _ rfl
      clear hag hbad hnx hc1 ho1 hsn hcs hin hT hdo hcl5 hin5 hrr hrl TW
      go_wp2_with fail
      refine DOC.out.mono ?_
      rintro e w4 ⟨A1, n1, c1, rr1, rfl, hg4, ⟨A', c', hT4, _, _⟩, hO4, hR4⟩
      obtain ⟨A1', c1', hsl, hRs⟩ := Rd.of_own (base := base) hO4
      injection hsl with hA1 _ hc1
      subst hA1 hc1
      have hF4 := FW.out.grown hg4 hgw
      have hH4 := HW.out.grownR hg4 hGT.out (by decide) (by decide) (by decide) (by decide)
      have hins := RMs.ins hR4 RR.out
      have hnb1 : n1 ≤ 140737488355328 := by
        have h1 := hRs.count (enc := RRes.enc) (fun _ => rfl) (by omega)
        have h2 := All2.len hR4
        have h3 := RL.out
        simp only at h2 h3
        omega
      simp only at hT4
      have hal := (Below.refl w4.heap.size w4).alloc (Nat.le_refl _) (.cells #[.int .i64 at2, .int .i64 code2] 35)
      have F5 := Asd.mk (hF4.next hal)
      have H5 := Asd.mk (hH4.below hal)
      have T5 := Asd.mk (hT4.below hal)
      have R5 := Asd.mk (hRs.below hal)
      have N5 := Asd.mk (RIns.below hins hal)
      have hfb : w4.heap.size < (w4.alloc (.cells #[.int .i64 at2, .int .i64 code2] 35)).heap.size := by simp
      have d0 : (w4.alloc (.cells #[.int .i64 at2, .int .i64 code2] 35)).cell? ⟨w4.heap.size, 0, none⟩ = some (.int .i64 at2) := (cell_of_row _ w4.heap.size 0 _ _ _ (heap_alloc_new w4 _)).trans rfl
      have d1 : (w4.alloc (.cells #[.int .i64 at2, .int .i64 code2] 35)).cell? ⟨w4.heap.size, 1, none⟩ = some (.int .i64 code2) := (cell_of_row _ w4.heap.size 1 _ _ _ (heap_alloc_new w4 _)).trans rfl
      clear hg4 hT4 hO4 hR4 hRs hins hal hF4 hH4 e4
      go_wp2_with fail
      generalize w4.heap.size = fb at d0 d1 hfb ⊢
      generalize (w4.alloc (.cells #[.int .i64 at2, .int .i64 code2] 35)) = w5 at F5 H5 T5 R5 N5 d0 d1 hfb ⊢
      have hcs := C5.out w5 H5.out
      have g0 := hcs 0 _ rfl
      have g1 := hcs 1 _ rfl
      have g2 := hcs 2 _ rfl
      have g3 := hcs 3 _ rfl
      have g4 := hcs 4 _ rfl
      have g5 := hcs 5 _ rfl
      have g6 := hcs 6 _ rfl
      have g7 := hcs 7 _ rfl
      have g8 := hcs 8 _ rfl
      have g9 := hcs 9 _ rfl
      rw [Nat.add_zero] at g0
      clear hcs
      have hbl5 : b' < w5.heap.size := by
        obtain ⟨b2, o2, e, h, _⟩ := H5.out.rd.at_enc (enc := CallR.enc) (fun _ => rfl) (by omega) hjn
        injection e with e
        injection e with e1 e2
        rw [e1]; exact h
      have TC := Asd.mk (told_calls (I5.out _ H5.out |>.below ((Below.refl w5.heap.size w5).drew)) (R5.out.below ((Below.refl w5.heap.size w5).drew)) (RIns.below N5.out ((Below.refl w5.heap.size w5).drew)) hnb1 at2 code2)
      by_cases h1 : 0 < y.told
      · have h1b : decide (0 < y.told) = true := decide_eq_true h1
        cases hq : y.said res2 at2 code2 with
        | true =>
          rw [hq] at TC
          have Q := Asd.mk (NX.out (by rw [hq]; simp))
          clear hq
          unfold CallR.enc at TC
          go_region_with (go_at_call 47; refine TC.out.mono ?_; rintro e w6 ⟨rfl, hb6⟩; have B6 := Asd.mk (((Below.refl w5.heap.size w5).drew).trans hb6); clear hb6)
          all_goals
            go_wp2_with fail
            go_roundw
            case measure => simp [intOf]; omega
            case rel => exact ⟨k + 1, by go_num, by omega, ⟨F5.out.next B6.out⟩, ⟨A', c', by rw [SN.out]; exact T5.out.below B6.out⟩, Q⟩
        | false =>
          rw [hq] at TC
          have Q := Asd.mk (BAD.out (by rw [hq]; simp [h1]))
          clear hq
          unfold CallR.enc at TC
          go_region_with (go_at_call 47; refine TC.out.mono ?_; rintro e w6 ⟨rfl, hb6⟩; have B6 := Asd.mk (((Below.refl w5.heap.size w5).drew).trans hb6); clear hb6)
          all_goals
            have F6 := Asd.mk (F5.out.next B6.out)
            have f0 := F6.out.f0
            have f1 := F6.out.f1
            have ff := F6.out.fr
            have fl := F6.out.lt
            go_wp2_with fail
            refine bodyPost_ret (v := .tuple #[.pointer none, .agg #[.int .i64 k, .int .i64 251]]) (by simp [results, Try.results29, go_sem, f0, f1, ff, fl]) rfl ?_
            exact ⟨by repeat (first | exact F6.out.below | refine Below.setCell ?_ (by simp) _ | refine Below.alloc ?_ (by simp; omega) _), fun i hi => (by rw [Q.out] at hi; injection hi with hi; rw [← hi]), fun hi => (by rw [Q.out] at hi; cases hi)⟩
      · have h1b : decide (0 < y.told) = false := decide_eq_false h1
        have Q := Asd.mk (NX.out (by simp [h1]))
        go_quiet (fail)
        go_wp2_with fail
        go_roundw
        case measure => simp [intOf]; omega
        case rel => exact ⟨k + 1, by go_num, by omega, ⟨F5.out.next (below_dn _ _)⟩, ⟨A', c', by rw [SN.out]; exact T5.out.below (below_dn _ _)⟩, Q⟩
    · obtain rfl : k = m := by omega
      have Q : Asd (f = none) := ⟨by rw [← P.out]; exact firstI_none.2 (by rw [CL.out, M.out]; exact I.out)⟩
      have hall : cs.take k = cs := List.take_of_length_le (by have := CL.out; have := M.out; omega)
      rw [hall] at TW
      have hge : base ≤ w.heap.size := hbs
      clear hall
      have f0 := FW.out.f0
      have f1 := FW.out.f1
      have ff := FW.out.fr
      have fl := FW.out.lt
      go_wp2_with fail
      refine bodyPost_ret (v := .tuple #[.pointer (some ⟨g, 0, none⟩), .agg #[.int .i64 0, .int .i64 0]]) (by simp [results, Try.results29, go_sem, f0, f1, ff, fl]) rfl ?_
      obtain ⟨A', c', hT⟩ := TW.out
      have hI : IsT wr w.heap.size 35 := ⟨_, _, FW.out.blk⟩
      refine ⟨by repeat (first | exact FW.out.below | refine Below.setCell ?_ (by simp) _ | refine Below.alloc ?_ (by simp; omega) _), fun i hi => (by rw [Q.out] at hi; cases hi), fun _ => ⟨g, A', c', rfl, ?_⟩⟩
      exact (hT.set (p := ⟨w.heap.size, 0, none⟩) hI (by decide) (by decide) hbs _).set (p := ⟨w.heap.size, 1, none⟩) (hI.set _ _) (by decide) (by decide) hbs _

end Go.Proofs.Ytlhjfblpinpjiaa

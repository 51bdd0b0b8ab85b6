/- What is wrong with an order as such, as the document has it; against time. Play: a table that does an order; the first place that was told otherwise. Judge. -/
import Derived.Test.YtallnibjmffahaaGreatDoorJ14
import Derived.Deep.OwnRows
set_option linter.unusedVariables false
set_option linter.unusedSimpArgs false
namespace Go.Proofs.YtallnibjmffahaaGreatDoor
open Go.RowKit Go.Maps

theorem FB.set {w wr : World} (h : FB w wr) {ib j : Nat} (hj : w.heap.size < ib) (u : Value) : FB w (wr.setCell ⟨ib, j, none⟩ u) :=
  ⟨Below.setCell h.below (Nat.le_of_lt hj) _, by
    have : (wr.setCell ⟨ib, j, none⟩ u).heap[w.heap.size]? = wr.heap[w.heap.size]? := by simp [World.setCell, Array.getElem?_modify]; omega
    rw [this]; exact h.blk⟩
/-- A row of marks. -/
def Flags (w : World) (ib n : Nat) (l : List Int) : Prop := w.rowIs ib 4 n (fun j => .bool (decide ((j : Int) ∈ l)))
instance : Inhabited CallR := ⟨⟨0, 0, 0, 0, none, 0, 0, 0, 0, none, 0, 0, 0, 0, [], [], []⟩⟩
/-- The calls of an order. -/
def callsOf (hs : List CallR) (os : List Int) : List CallR := os.map (fun o => hs.getD o.toNat default)
def AllIn (hs : List CallR) (os : List Int) : Prop := ∀ o ∈ os, 0 ≤ o ∧ o < hs.length
theorem callsOf_len (hs : List CallR) (os : List Int) : (callsOf hs os).length = os.length := by simp [callsOf]
theorem callsOf_at {hs : List CallR} {os : List Int} (h : AllIn hs os) {i : Nat} (hi : i < os.length) : ∃ (j : Nat) (hj : j < hs.length) (hc : i < (callsOf hs os).length), os[i] = (j : Int) ∧ (callsOf hs os)[i] = hs[j] := by
  obtain ⟨h0, h1⟩ := h _ (List.getElem_mem hi)
  refine ⟨os[i].toNat, by omega, by simpa [callsOf] using hi, by omega, ?_⟩
  simp [callsOf, List.getD_eq_getElem?_getD]
  rw [List.getElem?_eq_getElem (by omega)]
  rfl
/-- The greatest time at which one of these was asked. -/
def latestP (l : List CallR) : Int := l.foldl (fun a z => max a z.asked) 0
theorem latestP_snoc (l : List CallR) (z : CallR) : latestP (l ++ [z]) = max (latestP l) z.asked := by simp [latestP]
theorem foldl_max_lt (l : List CallR) (a t : Int) : t < l.foldl (fun a z => max a z.asked) a ↔ t < a ∨ ∃ z ∈ l, t < z.asked := by
  induction l generalizing a with
  | nil => simp
  | cons x l ih => 
    have h1 : t < max a x.asked ↔ t < a ∨ t < x.asked := by omega
    simp only [List.foldl_cons, ih, List.mem_cons, exists_eq_or_imp]
    rw [h1, or_assoc]
theorem latestP_lt {l : List CallR} {t : Int} (h : 0 < t) : decide (t < latestP l) = l.any (fun z => decide (t < z.asked)) := by
  rw [Bool.eq_iff_iff]
  simp only [decide_eq_true_eq, List.any_eq_true]
  unfold latestP
  rw [foldl_max_lt]
  constructor
  · rintro (h1 | h1)
    · omega
    · exact h1
  · exact .inr
/-- The i-th was told before one ahead of it was asked. -/
def agBad (cs : List CallR) (i : Nat) : Bool := match cs[i]? with
  | some y => decide (0 < y.told) && (cs.take i).any (fun z => decide (y.told < z.asked))
  | none => false
theorem agBad_at {cs : List CallR} {i : Nat} (hi : i < cs.length) : agBad cs i = (decide (0 < cs[i].told) && (cs.take i).any (fun z => decide (cs[i].told < z.asked))) := by
  unfold agBad
  rw [List.getElem?_eq_getElem hi]
def againstP (cs : List CallR) : Int := match firstI (agBad cs) cs.length with
  | some i => (i : Int)
  | none => -1

set_option maxHeartbeats 16000000 in
set_option maxRecDepth 100000 in
theorem against_calls {base : Nat} {w : World} {A B : Option Addr} {n c m d : Nat} {hs : List CallR} {os : List Int} (hh : Hist base w A n c hs) (ho : Ints base w B m d os) (hai : AllIn hs os) :
    Calls Tryz.prog 61 #[.slice A n c, .slice B m d] w fun e w' => e = .returned (.int .i64 (againstP (callsOf hs os))) ∧ Below w.heap.size w w' := by
  have hn := hh.len
  have hm := ho.len
  have hnb := hh.big
  have hmb := ho.big
  have hcl := callsOf_len hs os
  have hat := fun i (hi : i < os.length) => callsOf_at hai hi
  generalize callsOf hs os = cs at *
  generalize hf : againstP cs = f
  have P := Asd.mk hf
  have H := Asd.mk hh
  have O := Asd.mk ho
  have N := Asd.mk hn
  have M := Asd.mk hm
  have CL := Asd.mk hcl
  have AT := Asd.mk hat
  clear hh ho hf hn hm hcl hat hai
  go_enter Tryz.func61, Tryz.ntmps61
  go_wp2_with fail
  go_loopw [5, 10] (fun s5 s10 wr => ∃ k : Nat, s10 = .int .i64 k ∧ s5 = .int .i64 (latestP (cs.take k)) ∧ k ≤ m ∧ Asd (Below w.heap.size w wr) ∧ Asd (∀ j, j < k → agBad cs j = false)) (fun _ s10 _ => m - (intOf s10).toNat)
  case atStart => exact ⟨0, rfl, rfl, Nat.zero_le _, ⟨by repeat (first | exact Below.refl _ _ | refine Below.alloc ?_ (by simp) _)⟩, ⟨fun j hj => absurd hj (Nat.not_lt_zero _)⟩⟩
  case round =>
    obtain ⟨k, rfl, rfl, hkm, BW, I⟩ := hrel
    by_cases hlt : k < m
    · obtain ⟨b, off, rfl, hbl, hil, c0⟩ := (O.out.below BW.out).at_ hlt
      have hcd : k < d := Nat.lt_of_lt_of_le hlt O.out.rd.cap
      obtain ⟨j, hj, hck, ho1, hc1⟩ := AT.out k hil
      have hjn : j < n := by have := N.out; omega
      obtain ⟨b', off', rfl, hbl', hil', hcs⟩ := (H.out.rd.below BW.out).at_enc (enc := CallR.enc) (fun _ => rfl) (by omega) hjn
      have hjc : j < c := Nat.lt_of_lt_of_le hjn H.out.rd.cap
      have hag := agBad_at hck
      have hbad : agBad cs k = true → f = (k : Int) := fun e => by
        rw [← P.out]; unfold againstP; rw [firstI_hit hck e I.out]
      have hnx : agBad cs k = false → ∀ j, j < k + 1 → agBad cs j = false := fun e j hj => by
        rcases Nat.lt_or_ge j k with h1 | h1
        · exact I.out j h1
        · obtain rfl : j = k := by omega
          exact e
      have hsn : latestP (cs.take (k + 1)) = max (latestP (cs.take k)) cs[k].asked := by rw [List.take_succ_eq_append_getElem hck, latestP_snoc]
      rw [hag, hc1] at hbad hnx
      rw [hc1] at hsn
      rw [ho1] at c0
      generalize hs[j] = y at hcs hbad hnx hsn
      have BAD := Asd.mk hbad
      have NX := Asd.mk hnx
      have SN := Asd.mk hsn
      clear hag hbad hnx hc1 ho1 hsn
      have e0 := hcs 0 _ rfl
      have e1 := hcs 1 _ rfl
      rw [Nat.add_zero] at e0
      clear hcs
      by_cases h1 : 0 < y.told
      · have hla := latestP_lt (l := cs.take k) h1
        have LA := Asd.mk hla
        clear hla
        by_cases h2 : y.told < latestP (cs.take k)
        · have Q := Asd.mk (BAD.out (by rw [← LA.out]; simp [h1, h2]))
          generalize latestP (cs.take k) = la at *
          go_wp2_with fail
          go_ret
          exact ⟨by rw [Q.out]; rfl, BW.out⟩
        · have Q := Asd.mk (NX.out (by rw [← LA.out]; simp [h2]))
          generalize latestP (cs.take k) = la at *
          go_wp2_with fail
          go_roundw
          case measure => simp [intOf]; omega
          case rel => exact ⟨k + 1, by go_num, by rw [SN.out]; congr 1; split <;> omega, by omega, BW, Q⟩
      · have Q := Asd.mk (NX.out (by simp [h1]))
        generalize latestP (cs.take k) = la at *
        go_wp2_with fail
        go_roundw
        case measure => simp [intOf]; omega
        case rel => exact ⟨k + 1, by go_num, by rw [SN.out]; congr 1; split <;> omega, by omega, BW, Q⟩
    · obtain rfl : k = m := by omega
      have Q : Asd (f = -1) := ⟨by rw [← P.out]; unfold againstP; rw [firstI_none.2 (by rw [CL.out, M.out]; exact I.out)]⟩
      go_wp2_with fail
      go_ret
      exact ⟨by rw [Q.out]; rfl, BW.out⟩

end Go.Proofs.YtallnibjmffahaaGreatDoor

set_option linter.unusedVariables false
set_option linter.unusedSimpArgs false
namespace Go.Proofs.YtallnibjmffahaaGreatDoor
open Go.RowKit Go.Maps

theorem Hist.cells {base : Nat} {w : World} {b off n c : Nat} {hs : List CallR} (h : Hist base w (some ⟨b, off, none⟩) n c hs) {j : Nat} (hj : j < n) (hl : j < hs.length) : ∀ t v, (hs[j]).enc[t]? = some v → w.cell? ⟨b, off + j * 10 + t, none⟩ = some v := by
  obtain ⟨b', off', e, _, _, hc⟩ := h.rd.at_enc (enc := CallR.enc) (fun _ => rfl) (by omega) hj
  injection e with e
  injection e with e1 e2
  subst e1 e2
  exact hc
def rowsP0 (cs : List CallR) : List Rw := playP [] (cs.map CallR.ops)
theorem rowsP0_snoc (cs : List CallR) (x : CallR) : rowsP0 (cs ++ [x]) = (doP (rowsP0 cs) x.ops).rows := by unfold rowsP0; rw [List.map_append]; exact playP_snoc _ _ _
theorem rowsP0_sorted (cs : List CallR) : Sorted (rowsP0 cs) := playP_sorted List.Pairwise.nil _
/-- What a table that has done these answers is what the call was told. -/
def CallR.told_ (y : CallR) (cs : List CallR) : Bool := y.said (doP (rowsP0 cs) y.ops).res (doP (rowsP0 cs) y.ops).at_ (doP (rowsP0 cs) y.ops).code
/-- The i-th was told otherwise. -/
def badAt (cs : List CallR) (i : Nat) : Bool := match cs[i]? with
  | some y => decide (0 < y.told) && !y.told_ (cs.take i)
  | none => false
theorem badAt_at {cs : List CallR} {i : Nat} (hi : i < cs.length) : badAt cs i = (decide (0 < cs[i].told) && !cs[i].told_ (cs.take i)) := by
  unfold badAt
  rw [List.getElem?_eq_getElem hi]
theorem doP_res_len (l : List Rw) (ops : List OpR) : (doP l ops).res.length ≤ ops.length := by
  have h := reP_len l ops
  unfold doP
  split
  · simp
  · split
    · simp
    · split
      · simp
      · simp [h]
def PlayPost (base : Nat) (w : World) (r : Option Nat) (rows : List Rw) (e : Ending) (w' : World) : Prop :=
  Below w.heap.size w w' ∧ (∀ i, r = some i → e = .returned (.tuple #[.pointer none, .agg #[.int .i64 i, .int .i64 251]])) ∧
    (r = none → ∃ g A' c', e = .returned (.tuple #[.pointer (some ⟨g, 0, none⟩), .agg #[.int .i64 0, .int .i64 0]]) ∧ Tab base w' g rows A' c')

set_option maxHeartbeats 16000000 in
set_option maxRecDepth 100000 in
theorem play_calls {base : Nat} {w : World} {A B : Option Addr} {n c m d : Nat} {hs : List CallR} {os : List Int} (hh : Hist base w A n c hs) (ho : Ints base w B m d os) (hai : AllIn hs os) (hbs : base ≤ w.heap.size) :
    Calls Tryz.prog 62 #[.slice A n c, .slice B m d] w (PlayPost base w (firstI (badAt (callsOf hs os)) (callsOf hs os).length) (rowsP0 (callsOf hs os))) := by
  have hn := hh.len
  have hm := ho.len
  have hnb := hh.big
  have hmb := ho.big
  have hcl := callsOf_len hs os
  have hat := fun i (hi : i < os.length) => callsOf_at hai hi
  generalize callsOf hs os = cs at *
  generalize hf : firstI (badAt cs) cs.length = f
  have P := Asd.mk hf
  have H := Asd.mk hh
  have O := Asd.mk ho
  have N := Asd.mk hn
  have M := Asd.mk hm
  have CL := Asd.mk hcl
  have AT := Asd.mk hat
  clear hh ho hf hn hm hcl hat hai
  have NEW := Asd.mk (New_calls base (w.alloc (.cells #[.int .i64 0, .int .i64 0] 49)) (by simp; omega))
  go_enter Tryz.func62, Tryz.ntmps62
  go_wp2_with fail
  refine NEW.out.mono ?_
  rintro e w1 ⟨g, rfl, hT1, hg1, hb1⟩
  have F1 := Asd.mk ((FB.start w).next hb1)
  have hgw : w.heap.size < g := by simp at hg1; omega
  have T1 : Asd (∃ A' c', Tab base w1 g (rowsP0 (cs.take 0)) A' c') := ⟨none, 0, hT1⟩
  clear hT1 hg1 hb1 NEW
  go_wp2_with fail
  go_loopw [14] (fun s14 wr => ∃ k : Nat, s14 = .int .i64 k ∧ k ≤ m ∧ Asd (FB w wr) ∧ Asd (∃ A' c', Tab base wr g (rowsP0 (cs.take k)) A' c') ∧ Asd (∀ j, j < k → badAt cs j = false)) (fun s14 _ => m - (intOf s14).toNat)
  case atStart => exact ⟨0, rfl, Nat.zero_le _, F1, T1, ⟨fun j hj => absurd hj (Nat.not_lt_zero _)⟩⟩
  case round =>
    obtain ⟨k, rfl, hkm, FW, TW, I⟩ := hrel
    by_cases hlt : k < m
    · obtain ⟨b, off, rfl, hbl, hil, c0⟩ := (O.out.below FW.out.below).at_ hlt
      have hcd : k < d := Nat.lt_of_lt_of_le hlt O.out.rd.cap
      obtain ⟨j, hj, hck, ho1, hc1⟩ := AT.out k hil
      have hjn : j < n := by have := N.out; omega
      obtain ⟨b', off', rfl, hbl', hil', hcs⟩ := (H.out.rd.below FW.out.below).at_enc (enc := CallR.enc) (fun _ => rfl) (by omega) hjn
      have hjc : j < c := Nat.lt_of_lt_of_le hjn H.out.rd.cap
      have hag := badAt_at hck
      have hbad : badAt cs k = true → f = some k := fun e => by rw [← P.out]; exact firstI_hit hck e I.out
      have hnx : badAt cs k = false → ∀ j, j < k + 1 → badAt cs j = false := fun e j hj => by
        rcases Nat.lt_or_ge j k with h1 | h1
        · exact I.out j h1
        · obtain rfl : j = k := by omega
          exact e
      have hsn : rowsP0 (cs.take (k + 1)) = (doP (rowsP0 (cs.take k)) hs[j].ops).rows := by rw [List.take_succ_eq_append_getElem hck, rowsP0_snoc, hc1]
      have HW := Asd.mk (H.out.below FW.out.below)
      have hin := HW.out.ins _ (List.getElem_mem hj)
      have hcl5 := fun (W : World) (hW : Hist base W (some ⟨b', off', none⟩) n c hs) => hW.cells hjn hj
      have hin5 := fun (W : World) (hW : Hist base W (some ⟨b', off', none⟩) n c hs) => hW.ins _ (List.getElem_mem hj)
      rw [hag, hc1] at hbad hnx
      rw [ho1] at c0
      unfold CallR.told_ at hbad hnx
      obtain ⟨A0, c00, hT⟩ := TW.out
      have hrr := doP_res_rows hT.big hT.srt hs[j].ops
      have hrl : (doP (rowsP0 (cs.take k)) hs[j].ops).res.length ≤ 140737488355328 := Nat.le_trans (doP_res_len _ _) (by have h1 := hin.rdo.count (enc := OpR.enc) (fun _ => rfl) (by omega); have h2 := hin.obig; omega)
      generalize rowsP0 (cs.take k) = rows at hT hbad hnx hsn hrr hrl
      generalize hs[j] = y at hcs hbad hnx hsn hin hcl5 hin5 hrr hrl
      have hdo := Do_calls2 hT y.ops y.oA y.on y.oc hin.rdo hin.fits
      generalize doP rows y.ops = dd at hbad hnx hsn hdo hrr hrl
      obtain ⟨l2, res2, at2, code2⟩ := dd
      simp only at hbad hnx hsn hrr hrl
      have BAD := Asd.mk hbad
      have NX := Asd.mk hnx
      have SN := Asd.mk hsn
      have DOC := Asd.mk hdo
      have C5 := Asd.mk hcl5
      have I5 := Asd.mk hin5
      have RR := Asd.mk hrr
      have RL := Asd.mk hrl
      have hGT : Asd (∀ j, some g = some j → IsT wr j 77 ∧ base ≤ j) := ⟨fun j hj => by
        injection hj with hj
        subst hj
        exact ⟨⟨_, _, hT.blk⟩, hT.ge⟩⟩
      have e4 := hcs 4 _ rfl
      clear hag hbad hnx hc1 ho1 hsn hcs hin hT hdo hcl5 hin5 hrr hrl TW
      go_wp2_with fail
      refine DOC.out.mono ?_
      rintro e w4 ⟨A1, n1, c1, rr1, rfl, hg4, ⟨A', c', hT4, _, _⟩, hO4, hR4⟩
      obtain ⟨A1', c1', hsl, hRs⟩ := Rd.of_own (base := base) hO4
      injection hsl with hA1 _ hc1
      subst hA1 hc1
      have hF4 := FW.out.grown hg4 hgw
      have hH4 := HW.out.grownR hg4 hGT.out (by decide) (by decide) (by decide) (by decide)
      have hins := RMs.ins hR4 RR.out
      have hnb1 : n1 ≤ 140737488355328 := by
        have h1 := hRs.count (enc := RRes.enc) (fun _ => rfl) (by omega)
        have h2 := All2.len hR4
        have h3 := RL.out
        simp only at h2 h3
        omega
      simp only at hT4
      have hal := (Below.refl w4.heap.size w4).alloc (Nat.le_refl _) (.cells #[.int .i64 at2, .int .i64 code2] 49)
      have F5 := Asd.mk (hF4.next hal)
      have H5 := Asd.mk (hH4.below hal)
      have T5 := Asd.mk (hT4.below hal)
      have R5 := Asd.mk (hRs.below hal)
      have N5 := Asd.mk (RIns.below hins hal)
      have hfb : w4.heap.size < (w4.alloc (.cells #[.int .i64 at2, .int .i64 code2] 49)).heap.size := by simp
      have d0 : (w4.alloc (.cells #[.int .i64 at2, .int .i64 code2] 49)).cell? ⟨w4.heap.size, 0, none⟩ = some (.int .i64 at2) := (cell_of_row _ w4.heap.size 0 _ _ _ (heap_alloc_new w4 _)).trans rfl
      have d1 : (w4.alloc (.cells #[.int .i64 at2, .int .i64 code2] 49)).cell? ⟨w4.heap.size, 1, none⟩ = some (.int .i64 code2) := (cell_of_row _ w4.heap.size 1 _ _ _ (heap_alloc_new w4 _)).trans rfl
      clear hg4 hT4 hO4 hR4 hRs hins hal hF4 hH4 e4
      go_wp2_with fail
      generalize w4.heap.size = fb at d0 d1 hfb ⊢
      generalize (w4.alloc (.cells #[.int .i64 at2, .int .i64 code2] 49)) = w5 at F5 H5 T5 R5 N5 d0 d1 hfb ⊢
      have hcs := C5.out w5 H5.out
      have g0 := hcs 0 _ rfl
      have g1 := hcs 1 _ rfl
      have g2 := hcs 2 _ rfl
      have g3 := hcs 3 _ rfl
      have g4 := hcs 4 _ rfl
      have g5 := hcs 5 _ rfl
      have g6 := hcs 6 _ rfl
      have g7 := hcs 7 _ rfl
      have g8 := hcs 8 _ rfl
      have g9 := hcs 9 _ rfl
      rw [Nat.add_zero] at g0
      clear hcs
      have hbl5 : b' < w5.heap.size := by
        obtain ⟨b2, o2, e, h, _⟩ := H5.out.rd.at_enc (enc := CallR.enc) (fun _ => rfl) (by omega) hjn
        injection e with e
        injection e with e1 e2
        rw [e1]; exact h
      have TC := Asd.mk (told_calls (I5.out _ H5.out |>.below ((Below.refl w5.heap.size w5).drew)) (R5.out.below ((Below.refl w5.heap.size w5).drew)) (RIns.below N5.out ((Below.refl w5.heap.size w5).drew)) hnb1 at2 code2)
      by_cases h1 : 0 < y.told
      · have h1b : decide (0 < y.told) = true := decide_eq_true h1
        cases hq : y.said res2 at2 code2 with
        | true =>
          rw [hq] at TC
          have Q := Asd.mk (NX.out (by rw [hq]; simp))
          clear hq
          unfold CallR.enc at TC
          go_region_with (go_at_call 82; refine TC.out.mono ?_; rintro e w6 ⟨rfl, hb6⟩; have B6 := Asd.mk (((Below.refl w5.heap.size w5).drew).trans hb6); clear hb6)
          all_goals
            go_wp2_with fail
            go_roundw
            case measure => simp [intOf]; omega
            case rel => exact ⟨k + 1, by go_num, by omega, ⟨F5.out.next B6.out⟩, ⟨A', c', by rw [SN.out]; exact T5.out.below B6.out⟩, Q⟩
        | false =>
          rw [hq] at TC
          have Q := Asd.mk (BAD.out (by rw [hq]; simp [h1]))
          clear hq
          unfold CallR.enc at TC
          go_region_with (go_at_call 82; refine TC.out.mono ?_; rintro e w6 ⟨rfl, hb6⟩; have B6 := Asd.mk (((Below.refl w5.heap.size w5).drew).trans hb6); clear hb6)
          all_goals
            have F6 := Asd.mk (F5.out.next B6.out)
            have f0 := F6.out.f0
            have f1 := F6.out.f1
            have ff := F6.out.fr
            have fl := F6.out.lt
            go_wp2_with fail
            refine bodyPost_ret (v := .tuple #[.pointer none, .agg #[.int .i64 k, .int .i64 251]]) (by simp [results, Tryz.results62, go_sem, f0, f1, ff, fl]) rfl ?_
            exact ⟨by repeat (first | exact F6.out.below | refine Below.setCell ?_ (by simp) _ | refine Below.alloc ?_ (by simp; omega) _), fun i hi => (by rw [Q.out] at hi; injection hi with hi; rw [← hi]), fun hi => (by rw [Q.out] at hi; cases hi)⟩
      · have h1b : decide (0 < y.told) = false := decide_eq_false h1
        have Q := Asd.mk (NX.out (by simp [h1]))
        go_quiet (fail)
        go_wp2_with fail
        go_roundw
        case measure => simp [intOf]; omega
        case rel => exact ⟨k + 1, by go_num, by omega, ⟨F5.out.next (below_dn _ _)⟩, ⟨A', c', by rw [SN.out]; exact T5.out.below (below_dn _ _)⟩, Q⟩
    · obtain rfl : k = m := by omega
      have Q : Asd (f = none) := ⟨by rw [← P.out]; exact firstI_none.2 (by rw [CL.out, M.out]; exact I.out)⟩
      have hall : cs.take k = cs := List.take_of_length_le (by have := CL.out; have := M.out; omega)
      rw [hall] at TW
      have hge : base ≤ w.heap.size := hbs
      clear hall
      have f0 := FW.out.f0
      have f1 := FW.out.f1
      have ff := FW.out.fr
      have fl := FW.out.lt
      go_wp2_with fail
      refine bodyPost_ret (v := .tuple #[.pointer (some ⟨g, 0, none⟩), .agg #[.int .i64 0, .int .i64 0]]) (by simp [results, Tryz.results62, go_sem, f0, f1, ff, fl]) rfl ?_
      obtain ⟨A', c', hT⟩ := TW.out
      have hI : IsT wr w.heap.size 49 := ⟨_, _, FW.out.blk⟩
      refine ⟨by repeat (first | exact FW.out.below | refine Below.setCell ?_ (by simp) _ | refine Below.alloc ?_ (by simp; omega) _), fun i hi => (by rw [Q.out] at hi; cases hi), fun _ => ⟨g, A', c', rfl, ?_⟩⟩
      exact (hT.set (p := ⟨w.heap.size, 0, none⟩) hI (by decide) (by decide) hbs _).set (p := ⟨w.heap.size, 1, none⟩) (hI.set _ _) (by decide) (by decide) hbs _

end Go.Proofs.YtallnibjmffahaaGreatDoor

set_option linter.unusedVariables false
set_option linter.unusedSimpArgs false
namespace Go.Proofs.YtallnibjmffahaaGreatDoor
open Go.RowKit Go.Maps

theorem formP_code {hs : List CallR} {os : List Int} (h : formP hs os ≠ (0, 0)) : (formP hs os).2 ≠ 0 := by
  unfold formP at h ⊢
  split
  · decide
  · rename_i h1
    rw [if_neg h1] at h
    split
    · simp
    · rename_i h2
      rw [if_neg h2] at h
      cases h3 : firstI (ordBad hs.length os) os.length with
      | some i => simp
      | none =>
        rw [h3] at h
        cases h4 : firstI (leftOut hs os) hs.length with
        | some i => simp
        | none => rw [h4] at h; exact absurd rfl h
theorem formP_zero {hs : List CallR} {os : List Int} (h : formP hs os = (0, 0)) : hs.length ≤ 200 ∧ hs.any (fun x => !x.ok) = false ∧ firstI (ordBad hs.length os) os.length = none ∧ firstI (leftOut hs os) hs.length = none := by
  unfold formP at h
  split at h
  · cases h
  · rename_i h1
    split at h
    · injection h with h _
      exfalso; revert h; simp
      rename_i h2; intro h; simp at *
    · rename_i h2
      cases h3 : firstI (ordBad hs.length os) os.length with
      | some i => rw [h3] at h; simp at h
      | none =>
        rw [h3] at h
        cases h4 : firstI (leftOut hs os) hs.length with
        | some i => rw [h4] at h; simp at h
        | none => exact ⟨by omega, by simpa using h2, rfl, rfl⟩
theorem formP_allin {hs : List CallR} {os : List Int} (h : formP hs os = (0, 0)) : AllIn hs os := by
  obtain ⟨_, _, h3, _⟩ := formP_zero h
  intro o ho
  obtain ⟨i, hi, rfl⟩ := List.getElem_of_mem ho
  have := firstI_none.1 h3 i hi
  rw [ordBad_at hi] at this
  simp at this
  omega
/-- What is wrong with an order of a history. -/
def judgeP (hs : List CallR) (os : List Int) : Int × Int :=
  if formP hs os ≠ (0, 0) then formP hs os
  else match firstI (agBad (callsOf hs os)) (callsOf hs os).length with
    | some i => ((i : Int), 250)
    | none => match firstI (badAt (callsOf hs os)) (callsOf hs os).length with
      | some i => ((i : Int), 251)
      | none => (0, 0)
section
variable {hs : List CallR} {os : List Int}
theorem judgeP_form (h : formP hs os ≠ (0, 0)) : judgeP hs os = formP hs os := by unfold judgeP; rw [if_pos h]
theorem judgeP_ag (h : formP hs os = (0, 0)) {i : Nat} (h2 : firstI (agBad (callsOf hs os)) (callsOf hs os).length = some i) : judgeP hs os = ((i : Int), 250) := by unfold judgeP; rw [if_neg (by rw [h]; simp), h2]
theorem judgeP_bad (h : formP hs os = (0, 0)) (h2 : firstI (agBad (callsOf hs os)) (callsOf hs os).length = none) {i : Nat} (h3 : firstI (badAt (callsOf hs os)) (callsOf hs os).length = some i) : judgeP hs os = ((i : Int), 251) := by
  unfold judgeP; rw [if_neg (by rw [h]; simp), h2]; dsimp only; rw [h3]
theorem judgeP_ok (h : formP hs os = (0, 0)) (h2 : firstI (agBad (callsOf hs os)) (callsOf hs os).length = none) (h3 : firstI (badAt (callsOf hs os)) (callsOf hs os).length = none) : judgeP hs os = (0, 0) := by
  unfold judgeP; rw [if_neg (by rw [h]; simp), h2]; dsimp only; rw [h3]
end
/-- A fault's cells. -/
theorem fault_cells {w : World} {b : Nat} {a c : Int} (h : w.heap[b]? = some (.cells #[.int .i64 a, .int .i64 c] 49 (0, 0))) : w.cell? ⟨b, 0, none⟩ = some (.int .i64 a) ∧ w.cell? ⟨b, 1, none⟩ = some (.int .i64 c) ∧ b < w.heap.size :=
  ⟨(cell_of_row w b 0 _ _ _ h).trans rfl, (cell_of_row w b 1 _ _ _ h).trans rfl, (Array.getElem?_eq_some_iff.1 h).1⟩
def JudgePost (base : Nat) (w : World) (hs : List CallR) (os : List Int) (e : Ending) (w' : World) : Prop :=
  Below w.heap.size w w' ∧ (judgeP hs os ≠ (0, 0) → e = .returned (.tuple #[.pointer none, .agg #[.int .i64 (judgeP hs os).1, .int .i64 (judgeP hs os).2]])) ∧
    (judgeP hs os = (0, 0) → ∃ g A' c', e = .returned (.tuple #[.pointer (some ⟨g, 0, none⟩), .agg #[.int .i64 0, .int .i64 0]]) ∧ Tab base w' g (rowsP0 (callsOf hs os)) A' c')

set_option maxHeartbeats 16000000 in
set_option maxRecDepth 100000 in
theorem judge_calls {base : Nat} {w : World} {A B : Option Addr} {n c m d : Nat} {hs : List CallR} {os : List Int} (hh : Hist base w A n c hs) (ho : Ints base w B m d os) (hbs : base ≤ w.heap.size) :
    Calls Tryz.prog 38 #[.slice A n c, .slice B m d] w (JudgePost base w hs os) := by
  have FC : Asd (∀ W, Below w.heap.size w W → Calls Tryz.prog 60 #[.slice A n c, .slice B m d] W fun e w' => e = .returned (.agg #[.int .i64 (formP hs os).1, .int .i64 (formP hs os).2]) ∧ Below W.heap.size W w') :=
    ⟨fun W hW => form_calls (hh.below hW) (ho.below hW) (Nat.le_trans hbs hW.size)⟩
  have AC : Asd (AllIn hs os → ∀ W, Below w.heap.size w W → Calls Tryz.prog 61 #[.slice A n c, .slice B m d] W fun e w' => e = .returned (.int .i64 (againstP (callsOf hs os))) ∧ Below W.heap.size W w') :=
    ⟨fun hai W hW => against_calls (hh.below hW) (ho.below hW) hai⟩
  have PC : Asd (AllIn hs os → ∀ W, Below w.heap.size w W → Calls Tryz.prog 62 #[.slice A n c, .slice B m d] W (PlayPost base W (firstI (badAt (callsOf hs os)) (callsOf hs os).length) (rowsP0 (callsOf hs os)))) :=
    ⟨fun hai W hW => play_calls (hh.below hW) (ho.below hW) hai (Nat.le_trans hbs hW.size)⟩
  clear hh ho
  have FS := Asd.mk (FB.start w)
  by_cases hz : formP hs os = (0, 0)
  · have AI := Asd.mk (formP_allin hz)
    have HZ := Asd.mk hz
    rw [hz] at FC
    simp only at FC
    clear hz
    cases ha : firstI (agBad (callsOf hs os)) (callsOf hs os).length with
    | some i =>
      have J := Asd.mk (judgeP_ag HZ.out ha)
      have hag : againstP (callsOf hs os) = (i : Int) := by unfold againstP; rw [ha]
      have AC2 := Asd.mk (AC.out AI.out)
      rw [hag] at AC2
      clear ha hag AC PC
      go_enter Tryz.func38, Tryz.ntmps38
      go_wp2_with fail
      refine (FC.out _ FS.out.below).mono ?_
      rintro e w1 ⟨rfl, hb1⟩
      have F1 := Asd.mk (FS.out.next hb1)
      clear hb1
      go_wp2_with fail
      have F2 := Asd.mk (F1.out.next ((Below.refl w1.heap.size w1).alloc (Nat.le_refl _) (.cells #[.int .i64 0, .int .i64 0] 49)))
      refine (AC2.out _ F2.out.below).mono ?_
      rintro e w3 ⟨rfl, hb3⟩
      have F3 := Asd.mk (F2.out.next hb3)
      clear hb3
      have f0 := F3.out.f0
      have f1 := F3.out.f1
      have ff := F3.out.fr
      have fl := F3.out.lt
      go_wp2_with fail
      refine bodyPost_ret (v := .tuple #[.pointer none, .agg #[.int .i64 i, .int .i64 250]]) (by simp [results, Tryz.results38, go_sem, f0, f1, ff, fl]) rfl ?_
      exact ⟨by repeat (first | exact F3.out.below | refine Below.drew ?_ | refine Below.setCell ?_ (by simp) _ | refine Below.alloc ?_ (by simp; omega) _), fun _ => by rw [J.out], fun h => by rw [J.out] at h; simp at h⟩
    | none =>
      have hag : againstP (callsOf hs os) = -1 := by unfold againstP; rw [ha]
      have AC2 := Asd.mk (AC.out AI.out)
      rw [hag] at AC2
      have HA := Asd.mk ha
      have PC2 := Asd.mk (PC.out AI.out)
      clear ha hag AC PC
      go_enter Tryz.func38, Tryz.ntmps38
      go_wp2_with fail
      refine (FC.out _ FS.out.below).mono ?_
      rintro e w1 ⟨rfl, hb1⟩
      have F1 := Asd.mk (FS.out.next hb1)
      clear hb1
      go_wp2_with fail
      have F2 := Asd.mk (F1.out.next ((Below.refl w1.heap.size w1).alloc (Nat.le_refl _) (.cells #[.int .i64 0, .int .i64 0] 49)))
      refine (AC2.out _ F2.out.below).mono ?_
      rintro e w3 ⟨rfl, hb3⟩
      have F3 := Asd.mk (F2.out.next hb3)
      clear hb3
      go_wp2_with fail
      refine (PC2.out _ F3.out.below).mono ?_
      rintro e w4 ⟨hb4, hs4, hn4⟩
      have F4 := Asd.mk (F3.out.next hb4)
      clear hb4
      cases hp : firstI (badAt (callsOf hs os)) (callsOf hs os).length with
      | some i =>
        have J := Asd.mk (judgeP_bad HZ.out HA.out hp)
        obtain rfl := hs4 i hp
        clear hs4 hn4 hp
        have f0 := F4.out.f0
        have f1 := F4.out.f1
        have ff := F4.out.fr
        have fl := F4.out.lt
        go_wp2_with fail
        refine bodyPost_ret (v := .tuple #[.pointer none, .agg #[.int .i64 i, .int .i64 251]]) (by simp [results, Tryz.results38, go_sem, f0, f1, ff, fl]) rfl ?_
        exact ⟨by repeat (first | exact F4.out.below | refine Below.drew ?_ | refine Below.setCell ?_ (by simp) _ | refine Below.alloc ?_ (by simp; omega) _), fun _ => by rw [J.out], fun h => by rw [J.out] at h; simp at h⟩
      | none =>
        have J := Asd.mk (judgeP_ok HZ.out HA.out hp)
        obtain ⟨g, A', c', rfl, hT⟩ := hn4 hp
        have T4 := Asd.mk hT
        clear hs4 hn4 hp hT
        have f0 := F4.out.f0
        have f1 := F4.out.f1
        have ff := F4.out.fr
        have fl := F4.out.lt
        go_wp2_with fail
        refine bodyPost_ret (v := .tuple #[.pointer (some ⟨g, 0, none⟩), .agg #[.int .i64 0, .int .i64 0]]) (by simp [results, Tryz.results38, go_sem, f0, f1, ff, fl]) rfl ?_
        have hI : IsT w4 w.heap.size 49 := ⟨_, _, F4.out.blk⟩
        exact ⟨by repeat (first | exact F4.out.below | refine Below.drew ?_ | refine Below.setCell ?_ (by simp) _ | refine Below.alloc ?_ (by simp; omega) _), fun h => absurd J.out h, fun _ => ⟨g, A', c', rfl, (T4.out.set (p := ⟨w.heap.size, 0, none⟩) hI (by decide) (by decide) hbs _).set (p := ⟨w.heap.size, 1, none⟩) (hI.set _ _) (by decide) (by decide) hbs _⟩⟩
  · have hc := formP_code hz
    have J := Asd.mk (judgeP_form hz)
    have NZ := Asd.mk hz
    generalize formP hs os = f at *
    obtain ⟨fa, fc⟩ := f
    simp only at FC hc
    have hcb : (fc == 0) = false := by simpa using hc
    have hcb2 : (fc != 0) = true := by simp [bne, hcb]
    clear AC PC hz
    by_cases ha : fa = 0
    · subst ha
      go_enter Tryz.func38, Tryz.ntmps38
      go_wp2_with fail
      refine (FC.out _ FS.out.below).mono ?_
      rintro e w1 ⟨rfl, hb1⟩
      have F1 := Asd.mk (FS.out.next hb1)
      clear hb1
      have F2 := Asd.mk (F1.out.next ((Below.refl w1.heap.size w1).alloc (Nat.le_refl _) (.cells #[.int .i64 0, .int .i64 fc] 49)))
      obtain ⟨x0, x1, x2⟩ := fault_cells (heap_alloc_new w1 (.cells #[.int .i64 0, .int .i64 fc] 49))
      have f0 := F2.out.f0
      have f1 := F2.out.f1
      have ff := F2.out.fr
      have fl := F2.out.lt
      go_wp2_with fail
      go_region
      go_wp2_with fail
      refine bodyPost_ret (v := .tuple #[.pointer none, .agg #[.int .i64 0, .int .i64 fc]]) (by simp [results, Tryz.results38, go_sem, f0, f1, ff, fl]) rfl ?_
      exact ⟨by repeat (first | exact F2.out.below | refine Below.drew ?_ | refine Below.setCell ?_ (by simp) _ | refine Below.alloc ?_ (by simp; omega) _), fun _ => by rw [J.out], fun h => by rw [J.out] at h; exact absurd h NZ.out⟩
    · have hab : (fa == 0) = false := by simpa using ha
      have hab2 : (fa != 0) = true := by simp [bne, hab]
      go_enter Tryz.func38, Tryz.ntmps38
      go_wp2_with fail
      refine (FC.out _ FS.out.below).mono ?_
      rintro e w1 ⟨rfl, hb1⟩
      have F1 := Asd.mk (FS.out.next hb1)
      clear hb1
      have F2 := Asd.mk (F1.out.next ((Below.refl w1.heap.size w1).alloc (Nat.le_refl _) (.cells #[.int .i64 fa, .int .i64 fc] 49)))
      obtain ⟨x0, x1, x2⟩ := fault_cells (heap_alloc_new w1 (.cells #[.int .i64 fa, .int .i64 fc] 49))
      have f0 := F2.out.f0
      have f1 := F2.out.f1
      have ff := F2.out.fr
      have fl := F2.out.lt
      go_wp2_with fail
      go_region
      go_wp2_with fail
      refine bodyPost_ret (v := .tuple #[.pointer none, .agg #[.int .i64 fa, .int .i64 fc]]) (by simp [results, Tryz.results38, go_sem, f0, f1, ff, fl]) rfl ?_
      exact ⟨by repeat (first | exact F2.out.below | refine Below.drew ?_ | refine Below.setCell ?_ (by simp) _ | refine Below.alloc ?_ (by simp; omega) _), fun _ => by rw [J.out], fun h => by rw [J.out] at h; exact absurd h NZ.out⟩

set_option maxHeartbeats 16000000 in
set_option maxRecDepth 100000 in
theorem Judge_calls {base : Nat} {w : World} {A B : Option Addr} {n c m d : Nat} {hs : List CallR} {os : List Int} (hh : Hist base w A n c hs) (ho : Ints base w B m d os) (hbs : base ≤ w.heap.size) :
    Calls Tryz.prog 15 #[.slice A n c, .slice B m d] w fun e w' => e = .returned (.agg #[.int .i64 (judgeP hs os).1, .int .i64 (judgeP hs os).2]) ∧ Below w.heap.size w w' := by
  have JC : Asd (∀ W, Below w.heap.size w W → Calls Tryz.prog 38 #[.slice A n c, .slice B m d] W (JudgePost base W hs os)) :=
    ⟨fun W hW => judge_calls (hh.below hW) (ho.below hW) (Nat.le_trans hbs hW.size)⟩
  clear hh ho
  have FS := Asd.mk (FB.start w)
  have hpp : ∀ (W : World) e w', JudgePost base W hs os e w' → Below W.heap.size W w' ∧ ∃ pp, e = .returned (.tuple #[.pointer pp, .agg #[.int .i64 (judgeP hs os).1, .int .i64 (judgeP hs os).2]]) := by
    rintro W e w' ⟨h1, h2, h3⟩
    refine ⟨h1, ?_⟩
    by_cases hz : judgeP hs os = (0, 0)
    · obtain ⟨g, A', c', h, _⟩ := h3 hz
      rw [hz]
      exact ⟨_, h⟩
    · exact ⟨_, h2 hz⟩
  have PP := Asd.mk hpp
  clear hpp
  generalize judgeP hs os = f at *
  obtain ⟨fa, fc⟩ := f
  simp only at PP ⊢
  go_enter Tryz.func15, Tryz.ntmps15
  go_wp2_with fail
  refine (JC.out _ FS.out.below).mono ?_
  intro e w1 hj
  obtain ⟨hb1, pp, rfl⟩ := PP.out _ _ _ hj
  have F1 := Asd.mk (FS.out.next hb1)
  clear hb1 hj
  have F2 := Asd.mk (F1.out.next ((Below.refl w1.heap.size w1).alloc (Nat.le_refl _) (.cells #[.int .i64 fa, .int .i64 fc] 49)))
  obtain ⟨x0, x1, x2⟩ := fault_cells (heap_alloc_new w1 (.cells #[.int .i64 fa, .int .i64 fc] 49))
  have f0 := F2.out.f0
  have f1 := F2.out.f1
  have ff := F2.out.fr
  have fl := F2.out.lt
  go_wp2_with fail
  refine bodyPost_ret (v := .agg #[.int .i64 fa, .int .i64 fc]) (by simp [results, Tryz.results15, go_sem, f0, f1, ff, fl]) rfl ?_
  exact ⟨rfl, by repeat (first | exact F2.out.below | refine Below.setCell ?_ (by simp) _ | refine Below.alloc ?_ (by simp; omega) _)⟩

end Go.Proofs.YtallnibjmffahaaGreatDoor

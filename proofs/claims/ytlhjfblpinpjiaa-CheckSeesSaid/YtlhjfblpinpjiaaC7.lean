/- The document's play. -/
import Derived.Test.YtlhjfblpinpjiaaC6
import Derived.Test.YtlhjfblpinpjiaaC1b
set_option linter.unusedVariables false
set_option linter.unusedSimpArgs false
namespace Go.Proofs.Ytlhjfblpinpjiaa
open Go.RowKit Go.Maps

def RPlayPost (base : Nat) (w : World) (r : Option Nat) (rows : List Rw) (e : Ending) (w' : World) : Prop :=
  Below w.heap.size w w' ∧ (∀ i, r = some i → e = .returned (.tuple #[.pointer none, .agg #[.int .i64 i, .int .i64 251]])) ∧
    (r = none → ∃ g A' c', e = .returned (.tuple #[.pointer (some ⟨g, 0, none⟩), .agg #[.int .i64 0, .int .i64 0]]) ∧ RTab base w' g rows A' c')
theorem RTab.set_ {base g c : Nat} {w : World} {l : List Rw} {A : Option Addr} (h : RTab base w g l A c) {p : Addr} {U : TypeId} (hT : IsT w p.block U) (h1 : U ≠ 86) (h2 : U ≠ 84) (hge : base ≤ p.block) (u : Value) : RTab base (w.setCell p u) g l A c :=
  ⟨by
    have hne : p.block ≠ g := (IsT.ne hT (⟨_, _, h.blk⟩ : IsT w g 84) h2)
    have : (w.setCell p u).heap[g]? = w.heap[g]? := by simp [World.setCell, Array.getElem?_modify, hne]
    rw [this]; exact h.blk, h.ge, h.rd.set hT h1 hge u, h.srt, h.big, by simpa [World.setCell] using h.old⟩
theorem RTab.new_ (base : Nat) (w : World) (hb : base ≤ w.heap.size) : RTab base (w.alloc (.cells #[.slice none 0 0] 84)) w.heap.size [] none 0 :=
  ⟨heap_alloc_new w _, hb, Rd.none_, List.Pairwise.nil, by simp, fun a ha => by cases ha⟩

set_option maxHeartbeats 16000000 in
set_option maxRecDepth 100000 in
theorem RPlay_calls {base : Nat} {w : World} {A B : Option Addr} {n c m d : Nat} {hs : List CallR} {os : List Int} (hh : Hist base w A n c hs) (ho : Ints base w B m d os) (hai : AllIn hs os) (hbs : base ≤ w.heap.size) :
    Calls Try.prog 38 #[.slice A n c, .slice B m d] w (RPlayPost base w (firstI (badAt (callsOf hs os)) (callsOf hs os).length) (rowsP0 (callsOf hs os))) := by
  have hn := hh.len
  have hm := ho.len
  have hnb := hh.big
  have hmb := ho.big
  have hcl := callsOf_len hs os
  have hat := fun i (hi : i < os.length) => callsOf_at hai hi
  generalize callsOf hs os = cs at *
  generalize hf : firstI (badAt cs) cs.length = f
  have P := Asd.mk hf
  have H := Asd.mk hh
  have O := Asd.mk ho
  have N := Asd.mk hn
  have M := Asd.mk hm
  have CL := Asd.mk hcl
  have AT := Asd.mk hat
  clear hh ho hf hn hm hcl hat hai
  have hfs := FB.start w
  have hal1 := (Below.refl (w.alloc (.cells #[.int .i64 0, .int .i64 0] 35)).heap.size (w.alloc (.cells #[.int .i64 0, .int .i64 0] 35))).alloc (Nat.le_refl _) (.cells #[.slice none 0 0] 84)
  have F1 := Asd.mk (hfs.next hal1)
  have hT1 := RTab.new_ base (w.alloc (.cells #[.int .i64 0, .int .i64 0] 35)) (by simp; omega)
  have hg1 : (w.alloc (.cells #[.int .i64 0, .int .i64 0] 35)).heap.size = w.heap.size + 1 := by simp
  rw [hg1] at hT1
  have T1 : Asd (∃ A' c', RTab base ((w.alloc (.cells #[.int .i64 0, .int .i64 0] 35)).alloc (.cells #[.slice none 0 0] 84)) (w.heap.size + 1) (rowsP0 (cs.take 0)) A' c') := ⟨none, 0, hT1⟩
  have hgw : w.heap.size < w.heap.size + 1 := by omega
  clear hfs hal1 hT1 hg1
  go_enter Try.func38, Try.ntmps38
  go_wp2_with fail
  generalize w.heap.size + 1 = g at T1 hgw ⊢
  generalize ((w.alloc (.cells #[.int .i64 0, .int .i64 0] 35)).alloc (.cells #[.slice none 0 0] 84)) = w1 at F1 T1 ⊢
  go_loopw [7] (fun s7 wr => ∃ k : Nat, s7 = .int .i64 k ∧ k ≤ m ∧ Asd (FB w wr) ∧ Asd (∃ A' c', RTab base wr g (rowsP0 (cs.take k)) A' c') ∧ Asd (∀ j, j < k → badAt cs j = false)) (fun s7 _ => m - (intOf s7).toNat)
  case atStart => exact ⟨0, rfl, Nat.zero_le _, F1, T1, ⟨fun j hj => absurd hj (Nat.not_lt_zero _)⟩⟩
  case round =>
    obtain ⟨k, rfl, hkm, FW, TW, I⟩ := hrel
    by_cases hlt : k < m
    · obtain ⟨b, off, rfl, hbl, hil, c0⟩ := (O.out.below FW.out.below).at_ hlt
      have hcd : k < d := Nat.lt_of_lt_of_le hlt O.out.rd.cap
      obtain ⟨j, hj, hck, ho1, hc1⟩ := AT.out k hil
      have hjn : j < n := by have := N.out; omega
      obtain ⟨b', off', rfl, hbl', hil', hcs⟩ := (H.out.rd.below FW.out.below).at_enc (enc := CallR.enc) (fun _ => rfl) (by omega) hjn
      have hjc : j < c := Nat.lt_of_lt_of_le hjn H.out.rd.cap
      have hag := badAt_at hck
      have hbad : badAt cs k = true → f = some k := fun e => by rw [← P.out]; exact firstI_hit hck e I.out
      have hnx : badAt cs k = false → ∀ j, j < k + 1 → badAt cs j = false := fun e j hj => by
        rcases Nat.lt_or_ge j k with h1 | h1
        · exact I.out j h1
        · obtain rfl : j = k := by omega
          exact e
      have hsn : rowsP0 (cs.take (k + 1)) = (doP (rowsP0 (cs.take k)) hs[j].ops).rows := by rw [List.take_succ_eq_append_getElem hck, rowsP0_snoc, hc1]
      have hin := (H.out.below FW.out.below).ins _ (List.getElem_mem hj)
      rw [hag, hc1] at hbad hnx
      rw [ho1] at c0
      unfold CallR.told_ at hbad hnx
      obtain ⟨A0, c00, hT⟩ := TW.out
      have hrr := doP_res_rows hT.big hT.srt hs[j].ops
      have hrl : (doP (rowsP0 (cs.take k)) hs[j].ops).res.length ≤ 140737488355328 := Nat.le_trans (doP_res_len _ _) (by have h1 := hin.rdo.count (enc := OpR.enc) (fun _ => rfl) (by omega); have h2 := hin.obig; omega)
      generalize rowsP0 (cs.take k) = rows at hT hbad hnx hsn hrr hrl
      generalize hs[j] = y at hcs hbad hnx hsn hin hrr hrl
      have hal := fun o => (Below.refl wr.heap.size wr).alloc (Nat.le_refl _) o
      have hdo := fun o => RDo_calls (hT.below (hal o)) y.ops y.oA y.on y.oc (hin.rdo.below (hal o)) hin.fits
      generalize doP rows y.ops = dd at hbad hnx hsn hdo hrr hrl
      obtain ⟨l2, res2, at2, code2⟩ := dd
      simp only at hbad hnx hsn hrr hrl
      have SD : Asd (y.said res2 at2 code2 = (decide (at2 = y.at_) && decide (code2 = y.code) && decide (res2 = y.res))) := ⟨rfl⟩
      generalize y.said res2 at2 code2 = sd at hbad hnx SD
      obtain ⟨asked, told, cl, sq, oA, on, oc, pc, ps, rA, rn, rc, at_, code, ops, res, rr⟩ := y
      simp only at hbad hnx hsn hdo hin
      have SD2 : Asd (sd = (decide (at2 = at_) && decide (code2 = code) && decide (res2 = res))) := ⟨SD.out⟩
      have BAD := Asd.mk hbad
      have NX := Asd.mk hnx
      have SN := Asd.mk hsn
      have DOC := Asd.mk hdo
      have RR := Asd.mk hrr
      have RL := Asd.mk hrl
      have TT := Asd.mk hT
      have IN := Asd.mk hin
      have hgr := hT.lt
      have g0 := hcs 0 _ rfl
      have g1 := hcs 1 _ rfl
      have g2 := hcs 2 _ rfl
      have g3 := hcs 3 _ rfl
      have g4 := hcs 4 _ rfl
      have g5 := hcs 5 _ rfl
      have g6 := hcs 6 _ rfl
      have g7 := hcs 7 _ rfl
      have g8 := hcs 8 _ rfl
      have g9 := hcs 9 _ rfl
      rw [Nat.add_zero] at g0
      clear hag hbad hnx hc1 ho1 hsn hcs hin hT hdo hrr hrl TW SD
      go_wp2_with fail
      refine (DOC.out _).mono ?_
      rintro e w4 ⟨A1, n1, c1, rr1, rfl, hg4, ⟨A', c', hT4, _⟩, hO4, hR4⟩
      have hgl := hal (.cells #[.int .i64 asked, .int .i64 told, .int .i64 cl, .int .i64 sq, .slice oA on oc, .int .i64 pc, .int .i64 ps, .slice rA rn rc, .int .i64 at_, .int .i64 code] 44)
      have hfn := heap_alloc_new wr (.cells #[.int .i64 asked, .int .i64 told, .int .i64 cl, .int .i64 sq, .slice oA on oc, .int .i64 pc, .int .i64 ps, .slice rA rn rc, .int .i64 at_, .int .i64 code] 44)
      have hsz : wr.heap.size < (wr.alloc (.cells #[.int .i64 asked, .int .i64 told, .int .i64 cl, .int .i64 sq, .slice oA on oc, .int .i64 pc, .int .i64 ps, .slice rA rn rc, .int .i64 at_, .int .i64 code] 44)).heap.size := by simp
      obtain ⟨A1', c1', hsl, hRs⟩ := Rd.of_own (base := base) hO4
      injection hsl with hA1 _ hc1
      subst hA1 hc1
      have hF2 := FW.out.next hgl
      have hT2 := TT.out.below hgl
      have hI2 := IN.out.below hgl
      have hGT : ∀ j, some g = some j → IsT (wr.alloc (.cells #[.int .i64 asked, .int .i64 told, .int .i64 cl, .int .i64 sq, .slice oA on oc, .int .i64 pc, .int .i64 ps, .slice rA rn rc, .int .i64 at_, .int .i64 code] 44)) j 84 ∧ base ≤ j := fun j hj => by
        injection hj with hj
        subst hj
        exact ⟨⟨_, _, hT2.blk⟩, hT2.ge⟩
      have hF4 := hF2.grown hg4 hgw
      have hI4 := hI2.grownR hg4 hGT (by decide) (by decide) (by decide)
      have hX4 := (hg4.block wr.heap.size hsz (by simp; omega)).trans hfn
      have hins := RMs.ins hR4 RR.out
      have hnb1 : n1 ≤ 140737488355328 := by
        have h1 := hRs.count (enc := RRes.enc) (fun _ => rfl) (by omega)
        have h2 := All2.len hR4
        have h3 := RL.out
        simp only at h2 h3
        omega
      simp only at hT4
      have ha5 := (Below.refl w4.heap.size w4).alloc (Nat.le_refl _) (.cells #[.int .i64 at2, .int .i64 code2] 35)
      have F5 := Asd.mk (hF4.next ha5)
      have T5 := Asd.mk (hT4.below ha5)
      have R5 := Asd.mk (hRs.below ha5)
      have N5 := Asd.mk (RIns.below hins ha5)
      have I5 := Asd.mk (hI4.below ha5)
      have hX5 := (ha5.block wr.heap.size (Array.getElem?_eq_some_iff.1 hX4).1).trans hX4
      have hfb : w4.heap.size < (w4.alloc (.cells #[.int .i64 at2, .int .i64 code2] 35)).heap.size := by simp
      have d0 : (w4.alloc (.cells #[.int .i64 at2, .int .i64 code2] 35)).cell? ⟨w4.heap.size, 0, none⟩ = some (.int .i64 at2) := (cell_of_row _ w4.heap.size 0 _ _ _ (heap_alloc_new w4 _)).trans rfl
      have d1 : (w4.alloc (.cells #[.int .i64 at2, .int .i64 code2] 35)).cell? ⟨w4.heap.size, 1, none⟩ = some (.int .i64 code2) := (cell_of_row _ w4.heap.size 1 _ _ _ (heap_alloc_new w4 _)).trans rfl
      have x1 := (cell_of_row _ wr.heap.size 1 _ _ _ hX5).trans (rfl : _ = some (Value.int .i64 told))
      have x7 := (cell_of_row _ wr.heap.size 7 _ _ _ hX5).trans (rfl : _ = some (Value.slice rA rn rc))
      have x8 := (cell_of_row _ wr.heap.size 8 _ _ _ hX5).trans (rfl : _ = some (Value.int .i64 at_))
      have x9 := (cell_of_row _ wr.heap.size 9 _ _ _ hX5).trans (rfl : _ = some (Value.int .i64 code))
      clear hg4 hT4 hO4 hR4 hRs hins ha5 hF4 hF2 hT2 hI2 hGT hI4 hX4 hX5 hgl hfn hsz hal g0 g1 g2 g3 g4 g5 g6 g7 g8 g9
      by_cases h1 : 0 < told
      · skip
        go_wp2_with fail
        generalize w4.heap.size = fb at d0 d1 hfb ⊢
        generalize (w4.alloc (.cells #[.int .i64 at2, .int .i64 code2] 35)) = w5 at F5 T5 R5 N5 I5 d0 d1 hfb x1 x7 x8 x9 ⊢
        have SR := Asd.mk (RSameResults_calls R5.out I5.out.rdr N5.out I5.out.rins hnb1 I5.out.rbig)
        simp only at SR
        cases hq : decide (res2 = res) with
        | false =>
          rw [hq] at SR
          have Q := Asd.mk (BAD.out (by rw [SD2.out, hq]; simp [h1]))
          clear hq
          go_wp2_with fail
          refine SR.out.mono ?_
          rintro e w6 ⟨rfl, q6, rfl⟩
          go_wp2_with fail
          refine (RFault_calls _ _ _).mono ?_
          rintro e w7 ⟨rfl, hb7⟩
          have F7 := Asd.mk ((F5.out.next (below_dn _ _)).next hb7)
          clear hb7
          have f0 := F7.out.f0
          have f1 := F7.out.f1
          have ff := F7.out.fr
          have fl := F7.out.lt
          go_wp2_with fail
          refine bodyPost_ret (v := .tuple #[.pointer none, .agg #[.int .i64 k, .int .i64 251]]) (by simp [results, Try.results38, go_sem, f0, f1, ff, fl]) rfl ?_
          exact ⟨by repeat (first | exact F7.out.below | refine Below.setCell ?_ (by simp) _ | refine Below.alloc ?_ (by simp; omega) _), fun i hi => (by rw [Q.out] at hi; injection hi with hi; rw [← hi]), fun hi => (by rw [Q.out] at hi; cases hi)⟩
        | true =>
          rw [hq] at SR
          by_cases e1 : at2 = at_
          · subst e1
            by_cases e2 : code2 = code
            · subst e2
              have Q := Asd.mk (NX.out (by rw [SD2.out, hq]; simp))
              clear hq
              go_wp2_with fail
              refine SR.out.mono ?_
              rintro e w6 ⟨rfl, q6, rfl⟩
              go_wp2_with fail
              go_roundw
              case measure => simp [intOf]; omega
              case rel => exact ⟨k + 1, by go_num, by omega, ⟨F5.out.next (below_dn _ _)⟩, ⟨A', c', by rw [SN.out]; exact T5.out.below (below_dn _ _)⟩, Q⟩
            · have e2b : (code2 == code) = false := by simpa using e2
              have Q := Asd.mk (BAD.out (by rw [SD2.out, hq]; simp [h1, e2]))
              clear hq
              go_wp2_with fail
              refine SR.out.mono ?_
              rintro e w6 ⟨rfl, q6, rfl⟩
              go_wp2_with fail
              refine (RFault_calls _ _ _).mono ?_
              rintro e w7 ⟨rfl, hb7⟩
              have F7 := Asd.mk ((F5.out.next (below_dn _ _)).next hb7)
              clear hb7
              have f0 := F7.out.f0
              have f1 := F7.out.f1
              have ff := F7.out.fr
              have fl := F7.out.lt
              go_wp2_with fail
              refine bodyPost_ret (v := .tuple #[.pointer none, .agg #[.int .i64 k, .int .i64 251]]) (by simp [results, Try.results38, go_sem, f0, f1, ff, fl]) rfl ?_
              exact ⟨by repeat (first | exact F7.out.below | refine Below.setCell ?_ (by simp) _ | refine Below.alloc ?_ (by simp; omega) _), fun i hi => (by rw [Q.out] at hi; injection hi with hi; rw [← hi]), fun hi => (by rw [Q.out] at hi; cases hi)⟩
          · have e1b : (at2 == at_) = false := by simpa using e1
            have Q := Asd.mk (BAD.out (by rw [SD2.out, hq]; simp [h1, e1]))
            clear hq
            go_wp2_with fail
            refine SR.out.mono ?_
            rintro e w6 ⟨rfl, q6, rfl⟩
            go_wp2_with fail
            refine (RFault_calls _ _ _).mono ?_
            rintro e w7 ⟨rfl, hb7⟩
            have F7 := Asd.mk ((F5.out.next (below_dn _ _)).next hb7)
            clear hb7
            have f0 := F7.out.f0
            have f1 := F7.out.f1
            have ff := F7.out.fr
            have fl := F7.out.lt
            go_wp2_with fail
            refine bodyPost_ret (v := .tuple #[.pointer none, .agg #[.int .i64 k, .int .i64 251]]) (by simp [results, Try.results38, go_sem, f0, f1, ff, fl]) rfl ?_
            exact ⟨by repeat (first | exact F7.out.below | refine Below.setCell ?_ (by simp) _ | refine Below.alloc ?_ (by simp; omega) _), fun i hi => (by rw [Q.out] at hi; injection hi with hi; rw [← hi]), fun hi => (by rw [Q.out] at hi; cases hi)⟩
      · have Q := Asd.mk (NX.out (by simp [h1]))
        go_wp2_with fail
        go_roundw
        case measure => simp [intOf]; omega
        case rel => exact ⟨k + 1, by go_num, by omega, F5, ⟨A', c', by rw [SN.out]; exact T5.out⟩, Q⟩
    · obtain rfl : k = m := by omega
      have Q : Asd (f = none) := ⟨by rw [← P.out]; exact firstI_none.2 (by rw [CL.out, M.out]; exact I.out)⟩
      have hall : cs.take k = cs := List.take_of_length_le (by have := CL.out; have := M.out; omega)
      rw [hall] at TW
      have hge : base ≤ w.heap.size := hbs
      clear hall
      have f0 := FW.out.f0
      have f1 := FW.out.f1
      have ff := FW.out.fr
      have fl := FW.out.lt
      go_wp2_with fail
      refine bodyPost_ret (v := .tuple #[.pointer (some ⟨g, 0, none⟩), .agg #[.int .i64 0, .int .i64 0]]) (by simp [results, Try.results38, go_sem, f0, f1, ff, fl]) rfl ?_
      obtain ⟨A', c', hT⟩ := TW.out
      have hI : IsT wr w.heap.size 35 := ⟨_, _, FW.out.blk⟩
      refine ⟨by repeat (first | exact FW.out.below | refine Below.setCell ?_ (by simp) _ | refine Below.alloc ?_ (by simp; omega) _), fun i hi => (by rw [Q.out] at hi; cases hi), fun _ => ⟨g, A', c', rfl, ?_⟩⟩
      exact (hT.set_ (p := ⟨w.heap.size, 0, none⟩) hI (by decide) (by decide) hbs _).set_ (p := ⟨w.heap.size, 1, none⟩) (hI.set _ _) (by decide) (by decide) hbs _

end Go.Proofs.Ytlhjfblpinpjiaa

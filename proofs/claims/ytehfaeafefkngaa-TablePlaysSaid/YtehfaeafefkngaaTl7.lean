/- TableWhole, the walk. -/
import Derived.Test.YtehfaeafefkngaaTl6
set_option linter.unusedVariables false
set_option linter.unusedSimpArgs false
namespace Go.Proofs.Ytehfaeafefkngaa
open Go.RowKit

theorem doP_fault {l : List Rw} {ops : List OpR} (h : (doP l ops).code ≠ 0) : (doP l ops).res = [] ∧ (doP l ops).rows = l := by
  unfold doP at h ⊢
  split
  · exact ⟨rfl, rfl⟩
  · split
    · exact ⟨rfl, rfl⟩
    · split
      · exact ⟨rfl, rfl⟩
      · rename_i h1 h2 h3
        rw [if_neg h1, if_neg h2, if_neg h3] at h
        exact absurd rfl h
structure Whole (l : List Rw) (ops : List OpR) : Prop where
  one : 1 ≤ ops.length
  most : ops.length ≤ 32
  eq : doP l ops = ⟨stP l ops, reP l ops, 0, 0⟩
  ok : ∀ x ∈ ops, opOk x = true
  codes : 1 < ops.length → ∀ r ∈ reP l ops, r.code = 0
theorem doP_whole {l : List Rw} {ops : List OpR} (h : (doP l ops).code = 0) : Whole l ops := by
  unfold doP at h
  split at h
  · simp at h
  · split at h
    · simp at h
    · rename_i h1 h2
      have hok : ∀ x ∈ ops, opOk x = true := fun x hx => by
        cases e : opOk x with
        | true => rfl
        | false => exact absurd (List.any_eq_true.2 ⟨x, hx, by simp [e]⟩) h2
      split at h
      · rename_i h3
        exfalso
        have hlt : (reP l ops).findIdx failed < (reP l ops).length := List.findIdx_lt_length_of_exists (List.any_eq_true.1 h3.2)
        have hf := List.findIdx_getElem (w := hlt)
        simp only [List.getD_eq_getElem?_getD, List.getElem?_eq_getElem hlt, Option.getD_some] at h
        simp [failed, h] at hf
      · rename_i h3
        have hcd : 1 < ops.length → ∀ r ∈ reP l ops, r.code = 0 := fun hl r hr => by
          by_cases e : r.code = 0
          · exact e
          · exact absurd ⟨hl, List.any_eq_true.2 ⟨r, hr, by simp [failed, e]⟩⟩ h3
        refine ⟨by omega, by omega, doP_ok h1 (by simpa using h2) hcd, hok, hcd⟩
theorem doP_at0 {l : List Rw} {ops : List OpR} (h : (doP l ops).code = 0) : (doP l ops).at_ = 0 := by rw [(doP_whole h).eq]
theorem doP_single {l : List Rw} {ops : List OpR} (h : Whole l ops) (k : Nat) (hk : k < ops.length) :
    doP (stP l (ops.take k)) [ops[k]] = ⟨stP l (ops.take (k + 1)), [(oneP (stP l (ops.take k)) ops[k]).2], 0, 0⟩ := by
  rw [doP_one, if_pos (h.ok _ (List.getElem_mem hk)), List.take_succ_eq_append_getElem hk, stP_snoc]

/-- One element cut out. -/
theorem Rd.one_ {α : Type} {enc : α → List Value} {base T k n c : Nat} {w : World} {b off : Nat} {l : List α} (h : Rd base T w k (some ⟨b, off, none⟩) n c (l.flatMap enc)) (hk : ∀ x, (enc x).length = k) {i : Nat} (hi : i < n) (hl : i < l.length) :
    Rd base T w k (some ⟨b, off + i * k, none⟩) 1 (c - i) (enc l[i]) := by
  have hc := h.cap
  have := h.cut (lo := i) (hi := i + 1) (c' := c) (by omega) (by omega) (by omega) (Nat.le_refl _)
  rw [if_neg (by omega), show i + 1 - i = 1 by omega, flat_drop enc k hk, flat_take enc k hk, List.drop_eq_getElem_cons hl, List.take_succ_cons, List.take_zero] at this
  simpa [add_lit'] using this

set_option maxHeartbeats 8000000 in
set_option maxRecDepth 100000 in
theorem Whole_walk {w : World} {Al : Option Addr} {nl cl : Nat} {ll : List RSl} {opss : List (List OpR)} (hl : Rd w.heap.size 22 w 1 Al nl cl (ll.flatMap RSl.enc)) (ha : All2 (OpsIn w.heap.size w) ll opss)
    {Ao : Option Addr} {no co : Nat} {ops : List OpR} (ho : OpsIn w.heap.size w ⟨Ao, no, co⟩ ops) :
    Calls Try.prog 4 #[.slice Al nl cl, .slice Ao no co] w fun e w' => e = .returned (.bool true) ∧ Below w.heap.size w w' := by
  have hcnt := ho.rd.count (enc := OpR.enc) (fun _ => rfl) (by omega)
  have CNT := Asd.mk hcnt
  have L := Asd.mk hl
  have AA := Asd.mk ha
  have O := Asd.mk ho
  clear hl ha ho hcnt
  have hplay := fun (W : World) (hB : Below w.heap.size w W) => played_calls (L.out.below hB) (AA.out.mono (fun a b h => h.below hB)) hB.size
  have PL := Asd.mk hplay
  have LE := Asd.mk (played_len opss)
  have SO := Asd.mk (played_sorted opss)
  clear hplay
  go_enter Try.func4, Try.ntmps4
  go_wp2_with fail
  refine (works_calls _).mono ?_
  rintro e wa ⟨rfl, hba⟩
  have Ba := Asd.mk hba
  clear hba
  go_wp2_with fail
  refine (PL.out _ Ba.out).mono ?_
  rintro e wb ⟨gt, rfl, hTt, hgt, hbb⟩
  have hbase1 : w.heap.size ≤ gt := Nat.le_trans Ba.out.size hgt
  have Bb := Asd.mk (Ba.out.trans (hbb.mono Ba.out.size))
  obtain ⟨At, ct, hTt⟩ := hTt
  generalize playP [] (opss.take 40) = st at *
  have Tt := Asd.mk hTt
  have lt1 : gt < wb.heap.size := hTt.lt
  clear hbb hTt PL
  go_wp2_with fail
  refine (Fork_calls Tt.out Bb.out.size).mono ?_
  rintro e wc ⟨gu, rfl, hTu, hgu, hbc⟩
  have Bc := Asd.mk (Bb.out.trans (hbc.mono Bb.out.size))
  obtain ⟨Au, cu, hTu⟩ := hTu
  have Tu := Asd.mk hTu
  have Tt := Asd.mk (Tt.out.below hbc)
  have hne : gt ≠ gu := by omega
  have hbase2 : w.heap.size ≤ gu := by omega
  have lt2 : gu < wc.heap.size := hTu.lt
  clear hbc hTu
  go_wp2_with fail
  refine (Rows_calls Tt.out allS).mono ?_
  rintro e wd ⟨R0, d0, rfl, hr0, _, hb1⟩
  have Bd := Asd.mk (Bc.out.trans (hb1.mono Bc.out.size))
  have Tt := Asd.mk (Tt.out.below hb1)
  have Tu := Asd.mk (Tu.out.below hb1)
  have P0 := Asd.mk hr0
  have Od := Asd.mk (O.out.below Bd.out)
  have lt3 : gu < wd.heap.size := Tu.out.lt
  have hlen0 : (rowsP st allS).length ≤ 140737488355328 := by
    have h1 := LE.out
    have h2 := endsP_le st allS
    rw [rowsP_len]; omega
  have HL0 := Asd.mk hlen0
  clear hb1 hr0 hlen0
  go_wp2_with fail
  refine (Do_calls Tt.out ops Ao no co Od.out.rd Od.out.fits).mono ?_
  rintro e we ⟨Ag, ng, cg, rr, rfl, hg1, hT1, hO1, hR1⟩
  have gT1 : IsT wd gt 71 := ⟨_, _, Tt.out.blk⟩
  have Be := Asd.mk (Bd.out.grown hg1 Bd.out.size (fun j hj => by injection hj with hj; omega))
  have Tu := Asd.mk (Tu.out.grown hg1 Tt.out.blk Tt.out.ge (by omega))
  have P0 := Asd.mk (P0.out.grown hg1 Tt.out.blk (by decide) Tt.out.ge)
  have Oe := Asd.mk (Od.out.grown hg1 gT1 Tt.out.ge)
  obtain ⟨At', ct', hT1⟩ := hT1
  obtain ⟨A2, c2, hs, hRd⟩ := Rd.of_own (base := w.heap.size) hO1
  injection hs with h1 _ h2
  subst h1 h2
  have Tt := Asd.mk hT1
  have Q := Asd.mk hRd
  have M := Asd.mk hR1
  have hsz := hg1.size
  have ltt : gt < we.heap.size := hT1.lt
  have ltu : gu < we.heap.size := Tu.out.lt
  have hngc : rr.length = ng := hRd.count (enc := RRes.enc) (fun _ => rfl) (by omega)
  have hrl : rr.length = (doP st ops).res.length := All2.len hR1
  have NG := Asd.mk (hngc.symm.trans hrl)
  clear hg1 hT1 hRd hR1 hO1 gT1 hngc hrl
  by_cases hno : no < 2
  · go_wp2_with fail
    go_ret
    exact ⟨rfl, (Be.out.alloc (by have := Be.out.size; omega) _)⟩
  by_cases hcode : (doP st ops).code = 0
  · have WH := Asd.mk (doP_whole hcode)
    clear hcode
    rw [WH.out.eq]
    have hng : ng = no := by rw [NG.out, WH.out.eq, ← CNT.out]; exact reP_len _ _
    subst hng
    rw [WH.out.eq] at Tt M
    have hn0 : 0 < ng := by omega
    obtain ⟨ob, oo, rfl, _, _⟩ := Oe.out.rd.at_ hn0
    obtain ⟨gb, go, rfl, _, _⟩ := Q.out.at_ hn0
    go_wp2_with fail
    have hal : Below we.heap.size we (we.alloc (.cells #[.int .i64 0, .int .i64 0] 32)) := (Below.refl _ _).alloc (Nat.le_refl _) _
    go_loopw [53] (fun s53 wr => ∃ k : Nat, s53 = .int .i64 k ∧ k ≤ ng ∧ Asd (Below w.heap.size w wr) ∧ Asd (∃ A c, Tab w.heap.size wr gu (stP st (ops.take k)) A c) ∧ Asd (∃ A c, Tab w.heap.size wr gt (stP st ops) A c) ∧
      Asd (Rd w.heap.size 39 wr 4 (some ⟨gb, go, none⟩) ng cg (resCells rr)) ∧ Asd (RMs w.heap.size wd.heap.size wr rr (reP st ops)) ∧ Asd (OpsIn w.heap.size wr ⟨some ⟨ob, oo, none⟩, ng, co⟩ ops)) (fun s53 _ => ng - (intOf s53).toNat)
    case atStart => exact ⟨0, rfl, by omega, ⟨Be.out.trans (hal.mono Be.out.size)⟩, ⟨_, _, Tu.out.below hal⟩, ⟨_, _, Tt.out.below hal⟩, ⟨Q.out.below hal⟩, ⟨M.out.below hal⟩, ⟨Oe.out.below hal⟩⟩
    case round =>
      obtain ⟨k, rfl, hkn, BW, TU, TT, QW, MW, OW⟩ := hrel
      by_cases hlt : k < ng
      · have hio : k < ops.length := by have := CNT.out; omega
        have hx := Rd.one_ (enc := OpR.enc) OW.out.rd (fun _ => rfl) hlt hio
        have hfx := OW.out.fits _ (List.getElem_mem hio)
        have hds := doP_single WH.out k hio
        obtain ⟨A, c, hT⟩ := TU.out
        have hoc : ng ≤ co := OW.out.rd.cap
        have hgc : ng ≤ cg := QW.out.cap
        have h32 : ng ≤ 32 := by have := WH.out.most; have := CNT.out; omega
        have hk1 : k < co := by omega
        have hk2 : k < cg := by omega
        have hck : ¬ co = k := by omega
        have hck2 : ¬ cg = k := by omega
        have HX := Asd.mk hx
        have FX := Asd.mk hfx
        have DS := Asd.mk hds
        have TK := Asd.mk hT
        have hds' := hds
        clear hx hfx hds hT
        have hrk : k < (reP st ops).length := by rw [reP_len]; exact hio
        have hrk2 : k < rr.length := by have := All2.len MW.out; omega
        have hrg := reP_get st ops k hio hrk
        have hcd : (oneP (stP st (ops.take k)) ops[k]).2.code = 0 := by
          rw [← hrg]
          exact WH.out.codes (by have := CNT.out; omega) _ (List.getElem_mem hrk)
        have hrw := doP_res_rows (l := stP st (ops.take k)) (stP_len SO.out (by have := LE.out; omega) _) (stP_sorted SO.out _) [ops[k]]
        rw [hds'] at hrw
        have RG := Asd.mk hrg
        have CD := Asd.mk hcd
        have RW := Asd.mk hrw
        clear hrg hcd hrw hds'
        go_wp2_with fail
        refine (Do_calls TK.out [ops[k]] _ 1 (co - k) (by simpa [opCells] using HX.out) (fun y hy => by rw [List.mem_singleton.1 hy]; exact FX.out)).mono ?_
        rintro e w2 ⟨As, ns, cs, r1, rfl, hg2, hT2, hO2, hR2⟩
        rw [DS.out] at hT2 hR2 ⊢
        simp only at hT2 hR2 ⊢
        obtain ⟨q, rfl, hq⟩ := res_single hR2 rfl
        have hns : ns = 1 := by have := hO2.1; simp [resCells, RRes.enc] at this; omega
        subst hns
        obtain ⟨As', cs', hsl, hRs⟩ := Rd.of_own (base := w.heap.size) hO2
        injection hsl with hA1 _ hc1
        subst hA1 hc1
        obtain ⟨b', off', rfl, hb', hl', hes⟩ := hRs.at_enc (enc := RRes.enc) (fun _ => rfl) (by omega) (i := 0) (by omega)
        have e0 := hes 0 _ rfl
        simp only [Nat.zero_mul, Nat.add_zero, List.getElem_cons_zero, hq.code, List.getD_cons_zero, CD.out] at e0
        have gT2 : IsT wr gu 71 := ⟨_, _, TK.out.blk⟩
        have gR2 : ∀ j, some gu = some j → IsT wr j 71 ∧ w.heap.size ≤ j := fun j hj => by
          injection hj with hj
          subst hj
          exact ⟨gT2, TK.out.ge⟩
        have hal2 : Below w2.heap.size w2 (w2.alloc (.cells #[.int .i64 0, .int .i64 0] 32)) := (Below.refl _ _).alloc (Nat.le_refl _) _
        have BW2 := Asd.mk (BW.out.grown hg2 BW.out.size (fun j hj => by injection hj with hj; omega))
        have BW3 := Asd.mk (BW2.out.trans (hal2.mono BW2.out.size))
        obtain ⟨At3, ct3, hT3⟩ := TT.out
        have TT3 := Asd.mk ((hT3.grown hg2 TK.out.blk TK.out.ge (by omega)).below hal2)
        have QW3 := Asd.mk (Rd.below (Rd.grown QW.out hg2 TK.out.blk (by decide) TK.out.ge) hal2)
        have MW3 := Asd.mk (RMs.below (RMs.grownR MW.out hg2 gR2 (by decide)) hal2)
        have OW3 := Asd.mk ((OW.out.grown hg2 gT2 TK.out.ge).below hal2)
        obtain ⟨Au3, cu3, hT2⟩ := hT2
        have TU3 := Asd.mk (hT2.below hal2)
        have QS := Asd.mk (Rd.below hRs hal2)
        have MS := Asd.mk (RMs.below hR2 hal2)
        have hqx := Rd.one_ (enc := RRes.enc) QW3.out (fun _ => rfl) hlt hrk2
        have QX := Asd.mk hqx
        have MX := Asd.mk (All2.at_ MW3.out k hrk2 hrk)
        clear hg2 hT2 hO2 hR2 hq hRs hes gT2 gR2 hal2 hT3 hqx
        go_wp2_with fail
        generalize (w2.alloc (.cells #[.int .i64 0, .int .i64 0] 32)) = w3 at BW3 TT3 QW3 MW3 OW3 TU3 QS MS QX MX ⊢
        refine (SameResults_yes (rr := [q]) (ss := [rr[k]]) (rs := [(oneP (stP st (ops.take k)) ops[k]).2]) QS.out (by simpa [resCells] using QX.out) MS.out ⟨by rw [← RG.out]; exact MX.out, trivial⟩ (by omega) RW.out).mono ?_
        rintro e w4 ⟨rfl, q4, hq4⟩
        have hB4 : Below w3.heap.size w3 w4 := hq4 ▸ below_dn _ _
        have BW3 := Asd.mk (BW3.out.trans (hB4.mono BW3.out.size))
        have TT3 := Asd.mk (TT3.out.below hB4)
        have QW3 := Asd.mk (QW3.out.below hB4)
        have MW3 := Asd.mk (MW3.out.below hB4)
        have OW3 := Asd.mk (OW3.out.below hB4)
        have TU3 := Asd.mk (TU3.out.below hB4)
        clear hB4 hq4
        go_wp2_with fail
        go_roundw
        case measure => simp [intOf]; omega
        case rel => exact ⟨k + 1, by go_num, by omega, BW3, ⟨_, _, TU3.out⟩, ⟨_, _, TT3.out⟩, QW3, MW3, OW3⟩
      · obtain rfl : k = ng := by omega
        obtain ⟨A3, c3, hT3⟩ := TU.out
        obtain ⟨A4, c4, hT4⟩ := TT.out
        rw [List.take_of_length_le (by have := CNT.out; omega)] at hT3
        have T3 := Asd.mk hT3
        have T4 := Asd.mk hT4
        clear hT3 hT4
        go_wp2_with fail
        refine (Rows_calls T3.out allS).mono ?_
        rintro e wj ⟨R1, d1, rfl, hr1, _, hb1⟩
        have BW := Asd.mk (BW.out.trans (hb1.mono BW.out.size))
        have T4 := Asd.mk (T4.out.below hb1)
        have P1 := Asd.mk hr1
        clear hb1 hr1
        go_wp2_with fail
        refine (Rows_calls T4.out allS).mono ?_
        rintro e wk ⟨R2, d2, rfl, hr2, _, hb2⟩
        have BW := Asd.mk (BW.out.trans (hb2.mono BW.out.size))
        have P1 := Asd.mk (P1.out.below hb2)
        have P2 := Asd.mk hr2
        have hlen : (rowsP (stP st ops) allS).length ≤ 140737488355328 := by
          have := T4.out.big
          have h2 := endsP_le (stP st ops) allS
          rw [rowsP_len]; omega
        have HL := Asd.mk hlen
        clear hb2 hr2 hlen
        go_wp2_with fail
        refine (SameRows_calls P1.out P2.out HL.out).mono ?_
        rintro e wl ⟨rfl, hb3⟩
        have BW := Asd.mk (BW.out.trans (hb3.mono BW.out.size))
        clear hb3
        rw [decide_eq_true rfl]
        go_wp2_with fail
        go_ret
        exact ⟨rfl, BW.out⟩
  · obtain ⟨hres, hrows⟩ := doP_fault hcode
    rw [hrows] at Tt
    have hng : ng = 0 := by rw [NG.out, hres]; rfl
    subst hng
    clear hres hrows
    have hal : Below we.heap.size we (we.alloc (.cells #[.int .i64 (doP st ops).at_, .int .i64 (doP st ops).code] 32)) := (Below.refl _ _).alloc (Nat.le_refl _) _
    have Tt := Asd.mk (Tt.out.below hal)
    have P0 := Asd.mk (P0.out.below hal)
    have Be := Asd.mk (Be.out.trans (hal.mono Be.out.size))
    clear hal
    go_wp2_with fail
    refine (Rows_calls Tt.out allS).mono ?_
    rintro e wj ⟨R1, d1, rfl, hr1, _, hb1⟩
    have Be := Asd.mk (Be.out.trans (hb1.mono Be.out.size))
    have P0 := Asd.mk (P0.out.below hb1)
    have P1 := Asd.mk hr1
    clear hb1 hr1
    go_wp2_with fail
    refine (SameRows_calls P1.out P0.out HL0.out).mono ?_
    rintro e wl ⟨rfl, hb3⟩
    have Be := Asd.mk (Be.out.trans (hb3.mono Be.out.size))
    clear hb3
    rw [decide_eq_true rfl]
    go_wp2_with fail
    go_ret
    exact ⟨rfl, Be.out⟩
end Go.Proofs.Ytehfaeafefkngaa

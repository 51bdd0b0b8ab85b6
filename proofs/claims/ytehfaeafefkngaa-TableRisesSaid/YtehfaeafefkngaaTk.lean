/- TableRises, the walk. -/
import Derived.Test.YtehfaeafefkngaaTkw
set_option linter.unusedVariables false
set_option linter.unusedSimpArgs false
namespace Go.Proofs.Ytehfaeafefkngaa
open Go.RowKit Go.Maps

set_option maxHeartbeats 8000000 in
set_option maxRecDepth 100000 in
theorem Rises_walk {w : World} {Ao : Option Addr} {no co : Nat} {ops : List OpR} (ho : OpsIn w.heap.size w ⟨Ao, no, co⟩ ops) :
    Calls Try.prog 3 #[.slice Ao no co] w fun e w' => e = .returned (.bool true) ∧ Below w.heap.size w w' := by
  have hcnt := ho.rd.count (enc := OpR.enc) (fun _ => rfl) (by omega)
  have CNT := Asd.mk hcnt
  have O := Asd.mk ho
  clear ho hcnt
  have hmm := @run_makeMap Try.prog
  go_enter Try.func3, Try.ntmps3
  go_wp2_with fail
  refine (New_calls w.heap.size w (Nat.le_refl _)).mono ?_
  rintro e w1 ⟨gt, rfl, hT1, hg1, hb1⟩
  have T1 := Asd.mk hT1
  have B1 := Asd.mk hb1
  have O1 := Asd.mk (O.out.below hb1)
  have hg0 : w.heap.size ≤ gt := hg1
  clear hT1 hb1
  go_wp2_with fail
  refine (works_calls _).mono ?_
  rintro e wa ⟨rfl, hba⟩
  have Ta := Asd.mk (T1.out.below hba)
  have Ba := Asd.mk (B1.out.trans (hba.mono B1.out.size))
  have Oa := Asd.mk (O1.out.below hba)
  clear hba
  go_wp2_with fail
  have hal : Below wa.heap.size wa (wa.alloc (.map #[] 0)) := (Below.refl _ _).alloc (Nat.le_refl _) _
  have Tb := Asd.mk (Ta.out.below hal)
  have Bb := Asd.mk (Ba.out.trans (hal.mono Ba.out.size))
  have Ob := Asd.mk (Oa.out.below hal)
  have hmb : gt < wa.heap.size := Ta.out.lt
  have Mb : Asd (Stamps (wa.alloc (.map #[] 0)) wa.heap.size 0 []) := ⟨_, World.ownsMap_made _ _ _ _, ReadsAs.nil⟩
  have hwm : w.heap.size ≤ wa.heap.size := Ba.out.size
  clear hal
  generalize wa.heap.size = mb at Mb hmb hwm ⊢
  generalize (wa.alloc (.map #[] 0)) = wb at Tb Bb Ob Mb ⊢
  go_loopw [5] (fun s5 wr => ∃ (k : Nat) (st : List Rw), s5 = .int .i64 k ∧ k ≤ no ∧ k ≤ 100 ∧ st.length ≤ k ∧ Asd (Below w.heap.size w wr) ∧ Asd (∃ A c, Tab w.heap.size wr gt st A c) ∧ Asd (OpsIn w.heap.size wr ⟨Ao, no, co⟩ ops) ∧ Asd (Stamps wr mb k st)) (fun s5 _ => no - (intOf s5).toNat)
  case atStart => exact ⟨0, [], rfl, by omega, by omega, by simp, Bb, ⟨_, _, Tb.out⟩, Ob, Mb⟩
  case round =>
    obtain ⟨k, st, rfl, hkn, hk100, hstk, BW, TT, OW, MW⟩ := hrel
    by_cases hlt : k < no
    · by_cases hlt2 : k < 100
      · have hio : k < ops.length := by have := CNT.out; omega
        obtain ⟨ob, oo, rfl, _, _⟩ := OW.out.rd.at_ (show 0 < no by omega)
        obtain ⟨c0, c1, c2, c3, c4, c5⟩ := OW.out.cells hlt hio
        have hfx := OW.out.fits _ (List.getElem_mem hio)
        have hx1 := Rd.one_ (enc := OpR.enc) OW.out.rd (fun _ => rfl) hlt hio
        generalize hx : ops[k] = x at c0 c1 c2 c3 c4 c5 hfx hx1
        have HX := Asd.mk hx
        have FX := Asd.mk hfx
        obtain ⟨A, c, hT⟩ := TT.out
        have hoc : no ≤ co := OW.out.rd.cap
        have hk1 : k < co := by omega
        have hck : ¬ co = k := by omega
        have hal : Below wr.heap.size wr (wr.alloc (.cells #[.int .i64 x.kind, .string x.key, .string x.val, .int .i64 x.stamp, .int .i64 x.test, .int .i64 x.most] 28)) := (Below.refl _ _).alloc (Nat.le_refl _) _
        have T2 := Asd.mk (hT.below hal)
        have X2 : Asd (Box w.heap.size (wr.alloc (.cells #[.int .i64 x.kind, .string x.key, .string x.val, .int .i64 x.stamp, .int .i64 x.test, .int .i64 x.most] 28)) wr.heap.size x) := ⟨Rd.new_ rfl rfl⟩
        have B2 := Asd.mk (BW.out.trans (hal.mono BW.out.size))
        have O2 := Asd.mk (OW.out.below hal)
        have M2 := Asd.mk (MW.out.below hal)
        have L2 := Asd.mk (hx1.below hal)
        have hxl : wr.heap.size < (wr.alloc (.cells #[.int .i64 x.kind, .string x.key, .string x.val, .int .i64 x.stamp, .int .i64 x.test, .int .i64 x.most] 28)).heap.size := alloc_lt _ _
        have hTl := hT.lt
        have SOx := Asd.mk hT.srt
        clear hx hfx hx1 hT hal
        have hxb : gt < wr.heap.size := hTl
        go_wp2_with fail
        generalize wr.heap.size = xb at X2 hxl hxb ⊢
        generalize (wr.alloc (.cells #[.int .i64 x.kind, .string x.key, .string x.val, .int .i64 x.stamp, .int .i64 x.test, .int .i64 x.most] 28)) = w3 at T2 X2 B2 O2 M2 L2 hxl ⊢
        have hdo := Do_calls T2.out [x] (some ⟨ob, oo + k * 6, none⟩) 1 (co - k) (by simpa [opCells] using L2.out) (fun y hy => by rw [List.mem_singleton.1 hy]; exact FX.out)
        have hgR : ∀ j, some gt = some j → IsT w3 j 71 ∧ w.heap.size ≤ j := fun j hj => by
          injection hj with hj
          subst hj
          exact ⟨⟨_, _, T2.out.blk⟩, T2.out.ge⟩
        have GR := Asd.mk hgR
        clear hgR
        cases hok : opOk x with
        | false =>
          have hds : doP st [x] = ⟨st, [], 0, 80⟩ := by rw [doP_one, hok]; simp
          rw [hds] at hdo
          have OK := Asd.mk hok
          clear hok hds
          refine hdo.mono ?_
          rintro e w4 ⟨As, ns, cs, r1, rfl, hg4, ⟨A4, c4, hT4⟩, hO4, hR4⟩
          clear hdo
          simp only at hT4 hR4 ⊢
          have hal : Below w4.heap.size w4 (w4.alloc (.cells #[.int .i64 0, .int .i64 80] 32)) := (Below.refl _ _).alloc (Nat.le_refl _) _
          have B4 := Asd.mk (B2.out.grown hg4 B2.out.size (fun j hj => (GR.out j hj).2))
          have B5 := Asd.mk (B4.out.trans (hal.mono B4.out.size))
          have T5 := Asd.mk (hT4.below hal)
          have O5 := Asd.mk ((O2.out.grown hg4 (GR.out gt rfl).1 T2.out.ge).below hal)
          have M5 := Asd.mk ((M2.out.kept hg4 (by intro e; injection e; omega)).below hal)
          have X5 := Asd.mk (Rd.below (Rd.grown X2.out hg4 T2.out.blk (by decide) T2.out.ge) hal)
          have hF : FBox w.heap.size (w4.alloc (.cells #[.int .i64 0, .int .i64 80] 32)) w4.heap.size 0 80 := Rd.new_ rfl rfl
          have F5 := Asd.mk hF
          have hxl5 : xb < w4.heap.size := Nat.lt_of_lt_of_le hxl hg4.size
          have hfl : w4.heap.size < (w4.alloc (.cells #[.int .i64 0, .int .i64 80] 32)).heap.size := alloc_lt _ _
          obtain ⟨d0, d1, d2, d3, d4, d5⟩ := Box.cell (Rd.grown X2.out hg4 T2.out.blk (by decide) T2.out.ge)
          clear hal hF hg4 hT4 hO4 hR4
          go_wp2_with fail
          generalize w4.heap.size = fb at F5 hxl5 hfl ⊢
          generalize (w4.alloc (.cells #[.int .i64 0, .int .i64 80] 32)) = w5 at B5 T5 O5 M5 X5 F5 hfl ⊢
          refine (Check_calls x FX.out.1 FX.out.2 _).mono ?_
          rw [OK.out]
          rintro e w6 ⟨rfl, hb6⟩
          have B6 := Asd.mk (B5.out.trans (hb6.mono B5.out.size))
          have T6 := Asd.mk (T5.out.below hb6)
          have O6 := Asd.mk (O5.out.below hb6)
          have M6 := Asd.mk ((M5.out.below hb6).mono (Nat.le_succ k))
          clear hb6 d0 d1 d2 d3 d4 d5
          go_wp2_with fail
          go_roundw
          case measure => simp [intOf]; omega
          case rel => exact ⟨k + 1, st, by go_num, by omega, by omega, by omega, B6, ⟨_, _, T6.out⟩, O6, M6⟩
        | true =>
          generalize hp : oneP st x = p
          obtain ⟨st2, res⟩ := p
          have hds : doP st [x] = ⟨st2, [res], 0, 0⟩ := by rw [doP_one, hok, hp]; simp
          rw [hds] at hdo
          have OK := Asd.mk hok
          have HP := Asd.mk hp
          clear hok hds hp
          refine hdo.mono ?_
          rintro e w4 ⟨As, ns, cs, r1, rfl, hg4, ⟨A4, c4, hT4⟩, hO4, hR4⟩
          clear hdo
          simp only at hT4 hR4 ⊢
          obtain ⟨q, rfl, hq⟩ := res_single hR4 rfl
          have hns : ns = 1 := by have := hO4.1; simp [resCells, RRes.enc] at this; omega
          subst hns
          obtain ⟨As', cs', hsl, hRs⟩ := Rd.of_own (base := w.heap.size) hO4
          injection hsl with hA1 _ hc1
          subst hA1 hc1
          have hal : Below w4.heap.size w4 (w4.alloc (.cells #[.int .i64 0, .int .i64 0] 32)) := (Below.refl _ _).alloc (Nat.le_refl _) _
          have B4 := Asd.mk (B2.out.grown hg4 B2.out.size (fun j hj => (GR.out j hj).2))
          have B5 := Asd.mk (B4.out.trans (hal.mono B4.out.size))
          have T5 := Asd.mk (hT4.below hal)
          have O5 := Asd.mk ((O2.out.grown hg4 (GR.out gt rfl).1 T2.out.ge).below hal)
          have M5 := Asd.mk ((M2.out.kept hg4 (by intro e; injection e; omega)).below hal)
          have X5 := Asd.mk (Rd.below (Rd.grown X2.out hg4 T2.out.blk (by decide) T2.out.ge) hal)
          have hF : FBox w.heap.size (w4.alloc (.cells #[.int .i64 0, .int .i64 0] 32)) w4.heap.size 0 0 := Rd.new_ rfl rfl
          have F5 := Asd.mk hF
          have Q5 := Asd.mk (Rd.below hRs hal)
          have N5 := Asd.mk (RMs.below hR4 hal)
          have hxl5 : xb < w4.heap.size := Nat.lt_of_lt_of_le hxl hg4.size
          have hfl : w4.heap.size < (w4.alloc (.cells #[.int .i64 0, .int .i64 0] 32)).heap.size := alloc_lt _ _
          obtain ⟨d0, d1, d2, d3, d4, d5⟩ := Box.cell (Rd.grown X2.out hg4 T2.out.blk (by decide) T2.out.ge)
          clear hal hF hg4 hT4 hO4 hR4 hq hRs
          go_wp2_with fail
          generalize w4.heap.size = fb at F5 hxl5 hfl ⊢
          generalize (w4.alloc (.cells #[.int .i64 0, .int .i64 0] 32)) = w5 at B5 T5 O5 M5 X5 F5 Q5 N5 hfl ⊢
          refine (Writes_calls x _).mono ?_
          rintro e w6 ⟨rfl, hb6⟩
          have B6 := Asd.mk (B5.out.trans (hb6.mono B5.out.size))
          have T6 := Asd.mk (T5.out.below hb6)
          have O6 := Asd.mk (O5.out.below hb6)
          have M6 := Asd.mk (M5.out.below hb6)
          have X6 := Asd.mk (Rd.below X5.out hb6)
          have Q6 := Asd.mk (Rd.below Q5.out hb6)
          have N6 := Asd.mk (RMs.below N5.out hb6)
          have hxl6 : xb < w6.heap.size := Box.lt X6.out
          clear hb6 d0 d1 d2 d3 d4 d5
          cases hw : (decide (1 ≤ x.kind) && decide (x.kind ≤ 4)) with
          | false =>
            have hst : st2 = st := by have := reads_only (l := st) OK.out hw; rw [HP.out] at this; exact this
            clear hw
            go_wp2_with fail
            go_roundw
            case measure => simp [intOf]; omega
            case rel => exact ⟨k + 1, st, by go_num, by omega, by omega, by omega, B6, ⟨_, _, hst ▸ T6.out⟩, O6, ⟨M6.out.mono (Nat.le_succ k)⟩⟩
          | true =>
            have HW := Asd.mk (wr_kinds hw)
            clear hw
            obtain ⟨gb, go, rfl, hgb, hgl6, hes⟩ := Q6.out.at_enc (enc := RRes.enc) (fun _ => rfl) (by omega) (i := 0) (by omega)
            have e0 : w6.cell? ⟨gb, go, none⟩ = some (.int .i64 q.code) := hes 0 _ rfl
            rw [N6.out.1.code] at e0
            have RC := Asd.mk N6.out.1.stamp
            clear hes
            obtain ⟨code, stamp, val, rows⟩ := res
            simp only at e0
            by_cases hc : code = 0
            · subst hc
              obtain ⟨d0, d1, d2, d3, d4, d5⟩ := Box.cell X6.out
              have hl1 : st2.length ≤ st.length + 1 := by have := oneP_len1 (l := st) x; rw [HP.out] at this; exact this
              have hky := opOk_key OK.out HW.out.1 HW.out.2
              have hgt := rise_get T6.out.srt (by omega) x.key hky.1 hky.2
              by_cases h4 : x.kind = 4
              · have hw4 := HW.out
                obtain ⟨ht, hs, hg, hl⟩ := rise_del SOx.out (by omega) h4 (by rw [HP.out])
                rw [HP.out] at hs hg hl
                simp only at hs hg hl
                rw [hg x.key, if_pos rfl] at hgt
                have hdo2 := Do1op T6.out ⟨5, x.key, ⟨#[]⟩, 0, 0, 0⟩ ⟨by show x.key.size ≤ _; omega, by show (⟨#[]⟩ : ByteArray).size ≤ _; decide⟩ rfl
                rw [hgt] at hdo2
                have DO2 := Asd.mk hdo2
                have HT := Asd.mk ht
                have HS := Asd.mk hs
                have HG := Asd.mk hg
                clear hgt hdo2 ht hs hg
                go_wp2_with fail
                refine DO2.out.mono ?_
                rintro e w7 ⟨Bs, nb, cb, r2, BB2, rfl, hg7, ⟨A7, c7, hT7⟩, hR7, hN7⟩
                obtain ⟨q2, rfl, hq2⟩ := res_single hN7 rfl
                have hnb : nb = 1 := by have := hR7.len; simp [resCells, RRes.enc] at this; omega
                subst hnb
                have hal : Below w7.heap.size w7 (w7.alloc (.cells #[.int .i64 0, .int .i64 0] 32)) := (Below.refl _ _).alloc (Nat.le_refl _) _
                have hgR : ∀ j, some gt = some j → IsT w6 j 71 ∧ w.heap.size ≤ j := fun j hj => by
                  injection hj with hj
                  subst hj
                  exact ⟨⟨_, _, T6.out.blk⟩, T6.out.ge⟩
                have B7 := Asd.mk (B6.out.grown hg7 B6.out.size (fun j hj => (hgR j hj).2))
                have B8 := Asd.mk (B7.out.trans (hal.mono B7.out.size))
                have T8 := Asd.mk (hT7.below hal)
                have O8 := Asd.mk ((O6.out.grown hg7 (hgR gt rfl).1 T6.out.ge).below hal)
                have M8 := Asd.mk ((M6.out.kept hg7 (by intro e; injection e; omega)).below hal)
                have X8 := Asd.mk (Rd.below (Rd.grown X6.out hg7 T6.out.blk (by decide) T6.out.ge) hal)
                have Q8 := Asd.mk (Rd.below (Rd.grown Q6.out hg7 T6.out.blk (by decide) T6.out.ge) hal)
                have R8 := Asd.mk (Rd.below hR7 hal)
                have N8 := Asd.mk (RMs.below hN7 hal)
                obtain ⟨d0', d1', d2', d3', d4', d5'⟩ := Box.cell (Rd.grown X6.out hg7 T6.out.blk (by decide) T6.out.ge)
                have hxl7 : xb < w7.heap.size := Nat.lt_of_lt_of_le hxl6 hg7.size
                clear hg7 hT7 hR7 hN7 hq2 hal hgR d0 d1 d2 d3 d4 d5
                rw [h4] at d0'
                go_wp2_with fail
                generalize (w7.alloc (.cells #[.int .i64 0, .int .i64 0] 32)) = w8 at B8 T8 O8 M8 X8 Q8 R8 N8 ⊢
                clear d0' d1' d2' d3' d4' d5'
                obtain ⟨d0, d1, d2, d3, d4, d5⟩ := Box.cell X8.out
                obtain ⟨_, _, hgo8, _, _, hes⟩ := Q8.out.at_enc (enc := RRes.enc) (fun _ => rfl) (by omega) (i := 0) (by omega)
                cases hgo8
                have e1 : w8.cell? ⟨gb, go + 1, none⟩ = some (.int .i64 q.stamp) := hes 1 _ rfl
                rw [RC.out] at e1
                obtain ⟨hb, ho, rfl, hbl, _, hfs⟩ := R8.out.at_enc (enc := RRes.enc) (fun _ => rfl) (by omega) (i := 0) (by omega)
                have f0 : w8.cell? ⟨hb, ho, none⟩ = some (.int .i64 q2.code) := hfs 0 _ rfl
                have f1 : w8.cell? ⟨hb, ho + 1, none⟩ = some (.int .i64 q2.stamp) := hfs 1 _ rfl
                have f2 : w8.cell? ⟨hb, ho + 2, none⟩ = some (.string q2.val) := hfs 2 _ rfl
                rw [N8.out.1.code] at f0
                rw [N8.out.1.stamp] at f1
                rw [N8.out.1.val] at f2
                have lk := fun n => M8.out.look x.key (by unfold maxLen; omega) n
                clear hes hfs
                simp only at e1 f0 f1 f2
                have hR2 : w.heap.size ≤ mb := hwm
                rw [HS.out] at e1
                go_quiet (fail)
                have hd9 : Below w8.heap.size w8 (w8.drewN nq) := below_dn _ _
                have B9 := Asd.mk (B8.out.trans (hd9.mono B8.out.size))
                have T9 := Asd.mk (T8.out.below hd9)
                have O9 := Asd.mk (O8.out.below hd9)
                have M9 := Asd.mk (M8.out.below hd9)
                obtain ⟨D, hown, hRD⟩ := M9.out
                have hIM := M9.out.isMap
                have e1' : (w8.drewN nq).cell? ⟨xb, 1, none⟩ = some (.string x.key) := d1
                have e3' : (w8.drewN nq).cell? ⟨xb, 3, none⟩ = some (.int .i64 x.stamp) := d3
                have OWN := Asd.mk hown
                have RD := Asd.mk hRD
                have IM := Asd.mk hIM
                clear d0 d1 d2 d3 d4 d5 e1 f0 f1 f2 lk hd9 hown hRD hIM
                generalize w8.drewN nq = w9 at *
                go_wp2_with (at_delete; refine wpList_delete_own _ rfl _ _ 26 9 rfl 3 strLaw Try.underlying26 _ mb k D rfl OWN.out _ _ rfl (keyOf_str (by unfold maxLen; omega)) ?_; intro w10 hown1 hturn1; have HU' := hturn1.grown; have OWN1 := Asd.mk hown1; clear hown1 hturn1)
                have HU := HU'
                have B10 := Asd.mk (B9.out.grown HU B9.out.size (fun j hj => by injection hj with hj; omega))
                have T10 := Asd.mk (T9.out.mapped HU IM.out hR2)
                have O10 := Asd.mk (O9.out.rd.mapped HU IM.out hR2)
                go_wp2_with fail
                go_roundw
                case measure => simp [intOf]; omega
                case rel => exact ⟨k + 1, st2, by go_num, by omega, by omega, by omega, B10, ⟨_, _, T10.out⟩, ⟨⟨O10.out, O9.out.fits⟩⟩, ⟨⟨_, OWN1.out.mono (Nat.le_succ k), RD.out.del (OWN.out.tidy strLaw) HG.out HT.out hl⟩⟩⟩
              · have hstm := opOk_stamp OK.out HW.out.1 (by have := HW.out.2; omega)
                obtain ⟨hst, had, hg, hl⟩ := rise_put SOx.out (by omega) h4 (by have := HW.out; omega) (by have := HW.out; omega) hstm.1 (by rw [HP.out])
                rw [HP.out] at hg hl
                simp only at hg hl
                rw [hg x.key, if_pos rfl] at hgt
                have hdo2 := Do1op T6.out ⟨5, x.key, ⟨#[]⟩, 0, 0, 0⟩ ⟨by show x.key.size ≤ _; omega, by show (⟨#[]⟩ : ByteArray).size ≤ _; decide⟩ rfl
                rw [hgt] at hdo2
                have DO2 := Asd.mk hdo2
                have HST := Asd.mk hst
                have HAD := Asd.mk had
                have HG := Asd.mk hg
                clear hgt hdo2 hst had hg
                go_wp2_with fail
                refine DO2.out.mono ?_
                rintro e w7 ⟨Bs, nb, cb, r2, BB2, rfl, hg7, ⟨A7, c7, hT7⟩, hR7, hN7⟩
                obtain ⟨q2, rfl, hq2⟩ := res_single hN7 rfl
                have hnb : nb = 1 := by have := hR7.len; simp [resCells, RRes.enc] at this; omega
                subst hnb
                have hal : Below w7.heap.size w7 (w7.alloc (.cells #[.int .i64 0, .int .i64 0] 32)) := (Below.refl _ _).alloc (Nat.le_refl _) _
                have hgR : ∀ j, some gt = some j → IsT w6 j 71 ∧ w.heap.size ≤ j := fun j hj => by
                  injection hj with hj
                  subst hj
                  exact ⟨⟨_, _, T6.out.blk⟩, T6.out.ge⟩
                have B7 := Asd.mk (B6.out.grown hg7 B6.out.size (fun j hj => (hgR j hj).2))
                have B8 := Asd.mk (B7.out.trans (hal.mono B7.out.size))
                have T8 := Asd.mk (hT7.below hal)
                have O8 := Asd.mk ((O6.out.grown hg7 (hgR gt rfl).1 T6.out.ge).below hal)
                have M8 := Asd.mk ((M6.out.kept hg7 (by intro e; injection e; omega)).below hal)
                have X8 := Asd.mk (Rd.below (Rd.grown X6.out hg7 T6.out.blk (by decide) T6.out.ge) hal)
                have Q8 := Asd.mk (Rd.below (Rd.grown Q6.out hg7 T6.out.blk (by decide) T6.out.ge) hal)
                have R8 := Asd.mk (Rd.below hR7 hal)
                have N8 := Asd.mk (RMs.below hN7 hal)
                obtain ⟨d0', d1', d2', d3', d4', d5'⟩ := Box.cell (Rd.grown X6.out hg7 T6.out.blk (by decide) T6.out.ge)
                have hxl7 : xb < w7.heap.size := Nat.lt_of_lt_of_le hxl6 hg7.size
                clear hg7 hT7 hR7 hN7 hq2 hal hgR d0 d1 d2 d3 d4 d5
                go_wp2_with fail
                generalize (w7.alloc (.cells #[.int .i64 0, .int .i64 0] 32)) = w8 at B8 T8 O8 M8 X8 Q8 R8 N8 ⊢
                clear d0' d1' d2' d3' d4' d5'
                obtain ⟨d0, d1, d2, d3, d4, d5⟩ := Box.cell X8.out
                obtain ⟨_, _, hgo8, _, _, hes⟩ := Q8.out.at_enc (enc := RRes.enc) (fun _ => rfl) (by omega) (i := 0) (by omega)
                cases hgo8
                have e1 : w8.cell? ⟨gb, go + 1, none⟩ = some (.int .i64 q.stamp) := hes 1 _ rfl
                rw [RC.out] at e1
                obtain ⟨hb, ho, rfl, hbl, _, hfs⟩ := R8.out.at_enc (enc := RRes.enc) (fun _ => rfl) (by omega) (i := 0) (by omega)
                have f0 : w8.cell? ⟨hb, ho, none⟩ = some (.int .i64 q2.code) := hfs 0 _ rfl
                have f1 : w8.cell? ⟨hb, ho + 1, none⟩ = some (.int .i64 q2.stamp) := hfs 1 _ rfl
                have f2 : w8.cell? ⟨hb, ho + 2, none⟩ = some (.string q2.val) := hfs 2 _ rfl
                rw [N8.out.1.code] at f0
                rw [N8.out.1.stamp] at f1
                rw [N8.out.1.val] at f2
                have lk := fun n => M8.out.look x.key (by unfold maxLen; omega) n
                clear hes hfs
                simp only at e1 f0 f1 f2
                have hR2 : w.heap.size ≤ mb := hwm
                have hst := HST.out
                have had := HAD.out
                by_cases hk1' : x.kind = 1
                · rw [hk1'] at d0
                  rw [had hk1'] at lk hst
                  clear had
                  go_quiet (fail)
                  have hd9 : Below w8.heap.size w8 (w8.drewN nq) := below_dn _ _
                  have B9 := Asd.mk (B8.out.trans (hd9.mono B8.out.size))
                  have T9 := Asd.mk (T8.out.below hd9)
                  have O9 := Asd.mk (O8.out.below hd9)
                  have M9 := Asd.mk (M8.out.below hd9)
                  obtain ⟨D, hown, hRD⟩ := M9.out
                  have hIM := M9.out.isMap
                  have e0' : (w8.drewN nq).cell? ⟨xb, 0, none⟩ = some (.int .i64 1) := d0
                  have e1' : (w8.drewN nq).cell? ⟨xb, 1, none⟩ = some (.string x.key) := d1
                  have e3' : (w8.drewN nq).cell? ⟨xb, 3, none⟩ = some (.int .i64 x.stamp) := d3
                  have OWN := Asd.mk hown
                  have RD := Asd.mk hRD
                  have IM := Asd.mk hIM
                  clear d0 d1 d2 d3 d4 d5 e1 f0 f1 f2 lk hd9 hown hRD hIM
                  generalize w8.drewN nq = w9 at *
                  go_wp2_with (at_mapUpdate; refine wpList_mapUpdate_own _ rfl _ _ _ 26 rfl 9 3 strLaw Try.underlying26 _ mb k D rfl OWN.out (by unfold maxLen; omega) _ _ _ rfl rfl (keyOf_str (by unfold maxLen; omega)) _ [] (plainElem_int Try.underlying3 (WalkArith.wf_i64 (by omega))) ?_; intro w10 hown1 HU'; have OWN1 := Asd.mk hown1; clear hown1)
                  have HU := HU'
                  have B10 := Asd.mk (B9.out.grown HU B9.out.size (fun j hj => by injection hj with hj; omega))
                  have T10 := Asd.mk (T9.out.mapped HU IM.out hR2)
                  have O10 := Asd.mk (O9.out.rd.mapped HU IM.out hR2)
                  go_wp2_with fail
                  go_roundw
                  case measure => simp [intOf]; omega
                  case rel => exact ⟨k + 1, st2, by go_num, by omega, by omega, by omega, B10, ⟨_, _, T10.out⟩, ⟨⟨O10.out, O9.out.fits⟩⟩, ⟨⟨_, OWN1.out, RD.out.put (r := ⟨x.key, x.stamp, x.val⟩) (OWN.out.tidy strLaw) HG.out hl⟩⟩⟩

                · have hk1b : (x.kind == 1) = false := by simpa using hk1'
                  clear had
                  go_quiet (fail)
                  have hd9 : Below w8.heap.size w8 (w8.drewN nq) := below_dn _ _
                  have B9 := Asd.mk (B8.out.trans (hd9.mono B8.out.size))
                  have T9 := Asd.mk (T8.out.below hd9)
                  have O9 := Asd.mk (O8.out.below hd9)
                  have M9 := Asd.mk (M8.out.below hd9)
                  obtain ⟨D, hown, hRD⟩ := M9.out
                  have hIM := M9.out.isMap
                  have e0' : (w8.drewN nq).cell? ⟨xb, 0, none⟩ = some (.int .i64 x.kind) := d0
                  have e1' : (w8.drewN nq).cell? ⟨xb, 1, none⟩ = some (.string x.key) := d1
                  have e3' : (w8.drewN nq).cell? ⟨xb, 3, none⟩ = some (.int .i64 x.stamp) := d3
                  have OWN := Asd.mk hown
                  have RD := Asd.mk hRD
                  have IM := Asd.mk hIM
                  clear d0 d1 d2 d3 d4 d5 e1 f0 f1 f2 lk hd9 hown hRD hIM
                  generalize w8.drewN nq = w9 at *
                  go_wp2_with (at_mapUpdate; refine wpList_mapUpdate_own _ rfl _ _ _ 26 rfl 9 3 strLaw Try.underlying26 _ mb k D rfl OWN.out (by unfold maxLen; omega) _ _ _ rfl rfl (keyOf_str (by unfold maxLen; omega)) _ [] (plainElem_int Try.underlying3 (WalkArith.wf_i64 (by omega))) ?_; intro w10 hown1 HU'; have OWN1 := Asd.mk hown1; clear hown1)
                  have HU := HU'
                  have B10 := Asd.mk (B9.out.grown HU B9.out.size (fun j hj => by injection hj with hj; omega))
                  have T10 := Asd.mk (T9.out.mapped HU IM.out hR2)
                  have O10 := Asd.mk (O9.out.rd.mapped HU IM.out hR2)
                  go_wp2_with fail
                  go_roundw
                  case measure => simp [intOf]; omega
                  case rel => exact ⟨k + 1, st2, by go_num, by omega, by omega, by omega, B10, ⟨_, _, T10.out⟩, ⟨⟨O10.out, O9.out.fits⟩⟩, ⟨⟨_, OWN1.out, RD.out.put (r := ⟨x.key, x.stamp, x.val⟩) (OWN.out.tidy strLaw) HG.out hl⟩⟩⟩
            · have hst : st2 = st := by have := rise_refused (l := st) (x := x) (by rw [HP.out]; exact hc); rw [HP.out] at this; exact this
              have hcb : (code == 0) = false := by simpa using hc
              have hcb' : (code != 0) = true := by simpa using hc
              go_wp2_with fail
              go_roundw
              case measure => simp [intOf]; omega
              case rel => exact ⟨k + 1, st, by go_num, by omega, by omega, by omega, B6, ⟨_, _, hst ▸ T6.out⟩, O6, ⟨M6.out.mono (Nat.le_succ k)⟩⟩
      · obtain ⟨A, c, hT⟩ := TT.out
        obtain ⟨D, hown, hRD⟩ := MW.out
        have TQ := Asd.mk hT
        have OWN := Asd.mk hown
        have SZ := Asd.mk hRD.size
        clear hT hown hRD
        go_wp2_with fail
        refine (Len_calls TQ.out).mono ?_
        rintro e wz ⟨rfl, rfl⟩
        go_wp2_with (at_len; refine wpList_len_own _ rfl _ 26 rfl 9 3 Try.underlying26 _ mb k D rfl OWN.out ?_; rw [SZ.out])
        go_ret
        exact ⟨by simp, BW.out⟩
    · obtain ⟨A, c, hT⟩ := TT.out
      obtain ⟨D, hown, hRD⟩ := MW.out
      have TQ := Asd.mk hT
      have OWN := Asd.mk hown
      have SZ := Asd.mk hRD.size
      clear hT hown hRD
      go_wp2_with fail
      refine (Len_calls TQ.out).mono ?_
      rintro e wz ⟨rfl, rfl⟩
      go_wp2_with (at_len; refine wpList_len_own _ rfl _ 26 rfl 9 3 Try.underlying26 _ mb k D rfl OWN.out ?_; rw [SZ.out])
      go_ret
      exact ⟨by simp, BW.out⟩
end Go.Proofs.Ytehfaeafefkngaa

/- TableReads, the walk. -/
import Derived.Test.YtehfaeafefkngaaTl7
import Derived.Laws.Cover1
set_option linter.unusedVariables false
set_option linter.unusedSimpArgs false
namespace Go.Proofs.Ytehfaeafefkngaa
open Go.RowKit

theorem reads_only {l : List Rw} {x : OpR} (ho : opOk x = true) (hw : (decide (1 ≤ x.kind) && decide (x.kind ≤ 4)) = false) : (oneP l x).1 = l := by
  have hk : ¬ (1 ≤ x.kind ∧ x.kind ≤ 4) := by
    intro h
    simp [h.1, h.2] at hw
  by_cases h6 : x.kind = 6
  · simp [oneP, h6]
  by_cases h5 : x.kind = 5
  · unfold oneP
    simp only [h5]
    rw [if_neg (by omega), if_pos (Or.inr trivial)]
    split
    · rfl
    · split
      · rfl
      · rw [if_pos trivial]
  · exfalso
    unfold opOk at ho
    rw [if_neg (by omega), if_neg (by omega), if_neg (by omega), if_neg h6] at ho
    cases ho
theorem res_sorted {l : List Rw} (h : Sorted l) (x : OpR) : Sorted (oneP l x).2.rows := by
  have none_ : Sorted [] := List.Pairwise.nil
  unfold oneP writeP
  dsimp only
  split
  · exact List.Pairwise.sublist ((List.take_sublist _ _).trans (List.drop_sublist _ _)) h
  · split
    · split
      · exact none_
      · split
        · exact none_
        · split
          · exact none_
          · exact none_
    · split
      · exact none_
      · split
        · exact none_
        · split
          · exact none_
          · split
            · exact none_
            · split
              · exact none_
              · exact none_
theorem OpsIn.cells {base b off n c : Nat} {w : World} {ops : List OpR} (h : OpsIn base w ⟨some ⟨b, off, none⟩, n, c⟩ ops) {i : Nat} (hi : i < n) (hl : i < ops.length) :
    w.cell? ⟨b, off + i * 6, none⟩ = some (.int .i64 ops[i].kind) ∧ w.cell? ⟨b, off + i * 6 + 1, none⟩ = some (.string ops[i].key) ∧ w.cell? ⟨b, off + i * 6 + 2, none⟩ = some (.string ops[i].val) ∧
    w.cell? ⟨b, off + i * 6 + 3, none⟩ = some (.int .i64 ops[i].stamp) ∧ w.cell? ⟨b, off + i * 6 + 4, none⟩ = some (.int .i64 ops[i].test) ∧ w.cell? ⟨b, off + i * 6 + 5, none⟩ = some (.int .i64 ops[i].most) := by
  obtain ⟨b', off', hA, hb, hil, hcs⟩ := h.rd.at_enc (enc := OpR.enc) (fun _ => rfl) (by omega) hi
  cases hA
  exact ⟨hcs 0 _ rfl, hcs 1 _ rfl, hcs 2 _ rfl, hcs 3 _ rfl, hcs 4 _ rfl, hcs 5 _ rfl⟩

set_option maxHeartbeats 8000000 in
set_option maxRecDepth 100000 in
theorem Reads_walk {w : World} {Al : Option Addr} {nl cl : Nat} {ll : List RSl} {opss : List (List OpR)} (hl : Rd w.heap.size 22 w 1 Al nl cl (ll.flatMap RSl.enc)) (ha : All2 (OpsIn w.heap.size w) ll opss)
    {Ao : Option Addr} {no co : Nat} {ops : List OpR} (ho : OpsIn w.heap.size w ⟨Ao, no, co⟩ ops) :
    Calls Try.prog 7 #[.slice Al nl cl, .slice Ao no co] w fun e w' => e = .returned (.bool true) ∧ Below w.heap.size w w' := by
  have hcnt := ho.rd.count (enc := OpR.enc) (fun _ => rfl) (by omega)
  have CNT := Asd.mk hcnt
  have L := Asd.mk hl
  have AA := Asd.mk ha
  have O := Asd.mk ho
  clear hl ha ho hcnt
  have hplay := fun (W : World) (hB : Below w.heap.size w W) => played_calls (L.out.below hB) (AA.out.mono (fun a b h => h.below hB)) hB.size
  have PL := Asd.mk hplay
  have LE := Asd.mk (played_len opss)
  have SO := Asd.mk (played_sorted opss)
  clear hplay
  go_enter Try.func7, Try.ntmps7
  go_wp2_with fail
  refine (works_calls _).mono ?_
  rintro e wa ⟨rfl, hba⟩
  have Ba := Asd.mk hba
  clear hba
  go_wp2_with fail
  refine (PL.out _ Ba.out).mono ?_
  rintro e wb ⟨gt, rfl, hTt, hgt, hbb⟩
  have hbase1 : w.heap.size ≤ gt := Nat.le_trans Ba.out.size hgt
  have Bb := Asd.mk (Ba.out.trans (hbb.mono Ba.out.size))
  obtain ⟨At, ct, hTt⟩ := hTt
  generalize playP [] (opss.take 40) = st at *
  have Tt := Asd.mk hTt
  have lt1 : gt < wb.heap.size := hTt.lt
  have Ob := Asd.mk (O.out.below Bb.out)
  clear hbb hTt PL O
  go_wp2_with fail
  go_loopw [6] (fun s6 wr => ∃ k : Nat, s6 = .int .i64 k ∧ k ≤ no ∧ k ≤ 20 ∧ Asd (Below w.heap.size w wr) ∧ Asd (∃ A c, Tab w.heap.size wr gt st A c) ∧ Asd (OpsIn w.heap.size wr ⟨Ao, no, co⟩ ops)) (fun s6 _ => no - (intOf s6).toNat)
  case atStart => exact ⟨0, rfl, by omega, by omega, Bb, ⟨_, _, Tt.out⟩, Ob⟩
  case round =>
    obtain ⟨k, rfl, hkn, hk20, BW, TT, OW⟩ := hrel
    by_cases hlt : k < no
    · by_cases hlt2 : k < 20
      · have hio : k < ops.length := by have := CNT.out; omega
        obtain ⟨ob, oo, rfl, _, _⟩ := OW.out.rd.at_ (show 0 < no by omega)
        obtain ⟨c0, c1, c2, c3, c4, c5⟩ := OW.out.cells hlt hio
        generalize hx : ops[k] = x at c0 c1 c2 c3 c4 c5
        have HX := Asd.mk hx
        clear hx
        go_wp2_with fail
        refine (Writes_calls x _).mono ?_
        rintro e w1 ⟨rfl, hb1⟩
        have BW1 := Asd.mk (BW.out.trans (hb1.mono BW.out.size))
        have OW1 := Asd.mk (OW.out.below hb1)
        obtain ⟨A, c, hT⟩ := TT.out
        have T1 := Asd.mk (hT.below hb1)
        clear hb1 hT c0 c1 c2 c3 c4 c5
        cases hw : (decide (1 ≤ x.kind) && decide (x.kind ≤ 4)) with
        | true =>
          go_wp2_with fail
          go_roundw
          case measure => simp [intOf]; omega
          case rel => exact ⟨k + 1, by go_num, by omega, by omega, BW1, ⟨_, _, T1.out⟩, OW1⟩
        | false =>
          have HW := Asd.mk hw
          clear hw
          obtain ⟨c0, c1, c2, c3, c4, c5⟩ := OW1.out.cells hlt hio
          rw [HX.out] at c0 c1 c2 c3 c4 c5
          have hfx := OW.out.fits _ (List.getElem_mem hio)
          rw [HX.out] at hfx
          have FX := Asd.mk hfx
          clear hfx
          go_wp2_with fail
          refine (Check_calls x FX.out.1 FX.out.2 _).mono ?_
          rintro e w2 ⟨rfl, hb2⟩
          have BW2 := Asd.mk (BW1.out.trans (hb2.mono BW1.out.size))
          have OW2 := Asd.mk (OW1.out.below hb2)
          have T2 := Asd.mk (T1.out.below hb2)
          clear hb2 c0 c1 c2 c3 c4 c5
          cases hok : opOk x with
          | false =>
            rw [if_neg (by simp)]
            go_wp2_with fail
            go_roundw
            case measure => simp [intOf]; omega
            case rel => exact ⟨k + 1, by go_num, by omega, by omega, BW2, ⟨_, _, T2.out⟩, OW2⟩
          | true =>
            have OK := Asd.mk hok
            clear hok
            rw [if_pos rfl]
            go_wp2_with fail
            refine (Rows_calls T2.out allS).mono ?_
            rintro e w3 ⟨R0, d0, rfl, hr0, _, hb3⟩
            have BW3 := Asd.mk (BW2.out.trans (hb3.mono BW2.out.size))
            have OW3 := Asd.mk (OW2.out.below hb3)
            have T3 := Asd.mk (T2.out.below hb3)
            have P0 := Asd.mk hr0
            have hds : doP st [x] = ⟨st, [(oneP st x).2], 0, 0⟩ := by rw [doP_one, if_pos OK.out, reads_only OK.out HW.out]
            have hrs := res_sorted SO.out x
            have hrw := doP_res_rows (l := st) (by have := LE.out; omega) SO.out [x]
            rw [hds] at hrw
            have DS := Asd.mk hds
            have RS := Asd.mk hrs
            have RW := Asd.mk hrw
            have hoc : no ≤ co := OW3.out.rd.cap
            have hk1 : k < co := by omega
            have hck : ¬ co = k := by omega
            have hx3 := Rd.one_ (enc := OpR.enc) OW3.out.rd (fun _ => rfl) hlt hio
            rw [HX.out] at hx3
            have HX3 := Asd.mk hx3
            clear hb3 hr0 hds hrs hrw hx3
            go_wp2_with fail
            refine (Do_calls T3.out [x] _ 1 (co - k) (by simpa [opCells] using HX3.out) (fun y hy => by rw [List.mem_singleton.1 hy]; exact FX.out)).mono ?_
            rintro e w4 ⟨As, ns, cs, r1, rfl, hg4, hT4, hO4, hR4⟩
            rw [DS.out] at hT4 hR4 ⊢
            simp only at hT4 hR4 ⊢
            obtain ⟨q, rfl, hq⟩ := res_single hR4 rfl
            have hns : ns = 1 := by have := hO4.1; simp [resCells, RRes.enc] at this; omega
            subst hns
            obtain ⟨As', cs', hsl, hRs⟩ := Rd.of_own (base := w.heap.size) hO4
            injection hsl with hA1 _ hc1
            subst hA1 hc1
            have gT4 : IsT w3 gt 71 := ⟨_, _, T3.out.blk⟩
            have hal4 : Below w4.heap.size w4 (w4.alloc (.cells #[.int .i64 0, .int .i64 0] 32)) := (Below.refl _ _).alloc (Nat.le_refl _) _
            have BW4 := Asd.mk (BW3.out.grown hg4 BW3.out.size (fun j hj => by injection hj with hj; omega))
            have BW4 := Asd.mk (BW4.out.trans (hal4.mono BW4.out.size))
            have P0 := Asd.mk (Rd.below (P0.out.grown hg4 T3.out.blk (by decide) T3.out.ge) hal4)
            have OW4 := Asd.mk ((OW3.out.grown hg4 gT4 T3.out.ge).below hal4)
            obtain ⟨At4, ct4, hT4⟩ := hT4
            have T4 := Asd.mk (hT4.below hal4)
            have Q4 := Asd.mk (Rd.below hRs hal4)
            have M4 := Asd.mk (RMs.below hR4 hal4)
            have hF4 : FBox w.heap.size (w4.alloc (.cells #[.int .i64 0, .int .i64 0] 32)) w4.heap.size 0 0 := Rd.new_ rfl rfl
            have F4 := Asd.mk hF4
            have hx4 := Rd.one_ (enc := OpR.enc) OW4.out.rd (fun _ => rfl) hlt hio
            rw [HX.out] at hx4
            have HX4 := Asd.mk hx4
            have h34 : w4.heap.size < (w4.alloc (.cells #[.int .i64 0, .int .i64 0] 32)).heap.size := alloc_lt _ _
            clear hg4 hT4 hO4 hR4 hq hRs gT4 hal4 hF4 hx4
            go_wp2_with fail
            generalize w4.heap.size = fb4 at F4 h34 ⊢
            generalize (w4.alloc (.cells #[.int .i64 0, .int .i64 0] 32)) = w5 at BW4 P0 OW4 T4 Q4 M4 F4 HX4 h34 ⊢
            refine (Do_calls T4.out [x] _ 1 (co - k) (by simpa [opCells] using HX4.out) (fun y hy => by rw [List.mem_singleton.1 hy]; exact FX.out)).mono ?_
            rintro e w6 ⟨As6, ns6, cs6, r6, rfl, hg6, hT6, hO6, hR6⟩
            rw [DS.out] at hT6 hR6 ⊢
            simp only at hT6 hR6 ⊢
            obtain ⟨q6, rfl, hq6⟩ := res_single hR6 rfl
            have hns : ns6 = 1 := by have := hO6.1; simp [resCells, RRes.enc] at this; omega
            subst hns
            obtain ⟨As', cs', hsl, hRs6⟩ := Rd.of_own (base := w.heap.size) hO6
            injection hsl with hA1 _ hc1
            subst hA1 hc1
            have gT6 : IsT w5 gt 71 := ⟨_, _, T4.out.blk⟩
            have gR6 : ∀ j, some gt = some j → IsT w5 j 71 ∧ w.heap.size ≤ j := fun j hj => by
              injection hj with hj
              subst hj
              exact ⟨gT6, T4.out.ge⟩
            have hal6 : Below w6.heap.size w6 (w6.alloc (.cells #[.int .i64 0, .int .i64 0] 32)) := (Below.refl _ _).alloc (Nat.le_refl _) _
            have BW6 := Asd.mk (BW4.out.grown hg6 BW4.out.size (fun j hj => by injection hj with hj; omega))
            have BW6 := Asd.mk (BW6.out.trans (hal6.mono BW6.out.size))
            have P0 := Asd.mk (Rd.below (P0.out.grown hg6 T4.out.blk (by decide) T4.out.ge) hal6)
            have OW6 := Asd.mk ((OW4.out.grown hg6 gT6 T4.out.ge).below hal6)
            have Q4 := Asd.mk (Rd.below (Rd.grown Q4.out hg6 T4.out.blk (by decide) T4.out.ge) hal6)
            have M4 := Asd.mk (RMs.below (RMs.grownR M4.out hg6 gR6 (by decide)) hal6)
            have F6 := Rd.grown F4.out hg6 T4.out.blk (by decide) T4.out.ge
            obtain ⟨f0, f1⟩ := FBox.cell F6
            obtain ⟨At6, ct6, hT6⟩ := hT6
            have T6 := Asd.mk (hT6.below hal6)
            have Q6 := Asd.mk (Rd.below hRs6 hal6)
            have M6 := Asd.mk (RMs.below hR6 hal6)
            have h36 : fb4 < w6.heap.size := Nat.lt_of_lt_of_le h34 hg6.size
            clear hg6 hT6 hO6 hR6 hq6 hRs6 gT6 gR6 hal6 F6 h34
            go_wp2_with fail
            generalize (w6.alloc (.cells #[.int .i64 0, .int .i64 0] 32)) = w7 at BW6 P0 OW6 T6 Q4 M4 Q6 M6 ⊢
            refine (SameResults_yes (rr := [q]) (ss := [q6]) Q4.out Q6.out M4.out M6.out (by omega) RW.out).mono ?_
            rintro e w8 ⟨rfl, q8, hq8⟩
            have hB8 : Below w7.heap.size w7 w8 := hq8 ▸ below_dn _ _
            have BW8 := Asd.mk (BW6.out.trans (hB8.mono BW6.out.size))
            have P0 := Asd.mk (P0.out.below hB8)
            have OW8 := Asd.mk (OW6.out.below hB8)
            have T8 := Asd.mk (T6.out.below hB8)
            have Q8 := Asd.mk (Q4.out.below hB8)
            have M8 := Asd.mk (M4.out.below hB8)
            clear hB8 hq8 f0 f1
            go_wp2_with fail
            refine (Rows_calls T8.out allS).mono ?_
            rintro e w9 ⟨R9, d9, rfl, hr9, _, hb9⟩
            have BW9 := Asd.mk (BW8.out.trans (hb9.mono BW8.out.size))
            have P0 := Asd.mk (P0.out.below hb9)
            have OW9 := Asd.mk (OW8.out.below hb9)
            have T9 := Asd.mk (T8.out.below hb9)
            have Q9 := Asd.mk (Q8.out.below hb9)
            have M9 := Asd.mk (M8.out.below hb9)
            have P9 := Asd.mk hr9
            have hlen : (rowsP st allS).length ≤ 140737488355328 := by
              have := LE.out
              have h2 := endsP_le st allS
              rw [rowsP_len]; omega
            have HL := Asd.mk hlen
            clear hb9 hr9 hlen
            go_wp2_with fail
            refine (SameRows_calls P9.out P0.out HL.out).mono ?_
            rintro e wz ⟨rfl, hbz⟩
            have BWz := Asd.mk (BW9.out.trans (hbz.mono BW9.out.size))
            have OWz := Asd.mk (OW9.out.below hbz)
            have Tz := Asd.mk (T9.out.below hbz)
            have Qz := Asd.mk (Q9.out.below hbz)
            have Mz := Asd.mk (M9.out.below hbz)
            obtain ⟨gb, go, rfl, hgb, hgl, hes⟩ := Qz.out.at_enc (enc := RRes.enc) (fun _ => rfl) (by omega) (i := 0) (by omega)
            have e3 := hes 3 _ rfl
            simp only [Nat.zero_mul, Nat.add_zero, List.getElem_cons_zero] at e3
            have E3 := Asd.mk e3
            have hrd := Mz.out.1.rd
            have hqn := hrd.count (enc := Rw.enc) (fun _ => rfl) (by omega)
            have QN := Asd.mk hqn
            have RD := Asd.mk hrd
            have hbig := RW.out _ (List.mem_singleton.2 rfl)
            have BIG := Asd.mk hbig
            generalize (oneP st x).2.rows = rows at RS QN RD BIG
            clear hbz hes e3 hrd hqn hbig
            rw [decide_eq_true rfl]
            go_wp2_with fail
            go_loopw [12] (fun s12 wr => ∃ j : Nat, s12 = .int .i64 j ∧ 1 ≤ j ∧ j ≤ 140737488355329 ∧ Asd (∃ n, wr = wz.drewN n)) (fun s12 _ => q.n - (intOf s12).toNat)
            case atStart => exact ⟨1, rfl, by omega, by omega, ⟨0, rfl⟩⟩
            case round =>
              obtain ⟨j, rfl, hj1, hj2, QW⟩ := hrel
              obtain ⟨nn, hnn⟩ := QW.out
              have e3 : wr.cell? ⟨gb, go + 3, none⟩ = some (.slice q.A q.n q.c) := by rw [hnn]; exact E3.out
              have hbi : Below wz.heap.size wz wr := by rw [hnn]; exact below_dn _ _
              have NN := Asd.mk hnn
              have BI := Asd.mk hbi
              clear hnn hbi QW
              by_cases hjl : j < q.n
              · have hqb : q.n ≤ 140737488355328 := by have := QN.out; have := BIG.out; omega
                obtain ⟨m, hm⟩ : ∃ m, m + 1 = j := ⟨j - 1, by omega⟩
                have w1 : wrap64 ((j : Int) - 1) = (m : Int) := by unfold wrap64; omega
                obtain ⟨rb, ro, hA, hrb, hjr, hcj⟩ := (RD.out.below BI.out).at_enc (enc := Rw.enc) (fun _ => rfl) (by omega) hjl
                obtain ⟨rb', ro', hA', _, hmr, hcm⟩ := (RD.out.below BI.out).at_enc (enc := Rw.enc) (fun _ => rfl) (by omega) (show m < q.n by omega)
                rw [hA] at hA' e3
                cases hA'
                have c0 : wr.cell? ⟨rb, ro + j * 3, none⟩ = some (.string rows[j].key) := hcj 0 _ rfl
                have d0 : wr.cell? ⟨rb, ro + m * 3, none⟩ = some (.string rows[m].key) := hcm 0 _ rfl
                have hls : Op.bytesLess rows[m].key.toList rows[j].key.toList = true := by
                  rw [less_eq]
                  exact decide_eq_true (List.pairwise_iff_getElem.1 RS.out m j hmr hjr (by omega))
                have hmj : m = j - 1 := by omega
                have hmq : m < q.n := by omega
                have hmq2 : j - 1 < q.n := by omega
                generalize rows[j].key = kj at c0 hls
                generalize rows[m].key = km at d0 hls
                rw [hmj] at d0
                clear hcj hcm hA hm hmj
                go_wp2_with fail
                go_quiet (fail)
                go_wp2_with fail
                go_roundw
                case measure => simp [intOf]; omega
                case rel => exact ⟨j + 1, by go_num, by omega, by omega, ⟨_, by rw [NN.out, World.drewN_drewN]⟩⟩
              · go_wp2_with fail
                go_roundw
                case measure => simp [intOf]; omega
                case rel => exact ⟨k + 1, by go_num, by omega, by omega, ⟨BWz.out.trans (BI.out.mono BWz.out.size)⟩, ⟨_, _, Tz.out.below BI.out⟩, ⟨OWz.out.below BI.out⟩⟩
      · go_wp2_with fail
        go_ret
        exact ⟨rfl, BW.out⟩
    · go_wp2_with fail
      go_ret
      exact ⟨rfl, BW.out⟩
end Go.Proofs.Ytehfaeafefkngaa

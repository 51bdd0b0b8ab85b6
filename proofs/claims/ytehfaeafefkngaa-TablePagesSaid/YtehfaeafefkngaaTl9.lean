/- TablePages, the walk. -/
import Derived.Test.YtehfaeafefkngaaTl9w
import Derived.Test.YtehfaeafefkngaaTl8
import Derived.Test.YtehfaeafefkngaaTs
set_option linter.unusedVariables false
set_option linter.unusedSimpArgs false
namespace Go.Proofs.Ytehfaeafefkngaa
open Go.RowKit

set_option maxHeartbeats 8000000 in
set_option maxRecDepth 100000 in
theorem Pages_walk {w : World} {Al : Option Addr} {nl cl : Nat} {ll : List RSl} {opss : List (List OpR)} (hl : Rd w.heap.size 22 w 1 Al nl cl (ll.flatMap RSl.enc)) (ha : All2 (OpsIn w.heap.size w) ll opss) (most : Int) :
    Calls Try.prog 8 #[.slice Al nl cl, .int .i64 most] w fun e w' => e = .returned (.bool true) ∧ Below w.heap.size w w' := by
  have L := Asd.mk hl
  have AA := Asd.mk ha
  clear hl ha
  have hplay := fun (W : World) (hB : Below w.heap.size w W) => played_calls (L.out.below hB) (AA.out.mono (fun a b h => h.below hB)) hB.size
  have PL := Asd.mk hplay
  have LE := Asd.mk (played_len opss)
  have SO := Asd.mk (played_sorted opss)
  have RK := Asd.mk (played_rowsOk opss)
  clear hplay
  go_enter Try.func8, Try.ntmps8
  go_wp2_with fail
  refine (works_calls _).mono ?_
  rintro e wa ⟨rfl, hba⟩
  have Ba := Asd.mk hba
  clear hba
  go_wp2_with fail
  refine (PL.out _ Ba.out).mono ?_
  rintro e wb ⟨gt, rfl, hTt, hgt, hbb⟩
  have hbase1 : w.heap.size ≤ gt := Nat.le_trans Ba.out.size hgt
  have Bb := Asd.mk (Ba.out.trans (hbb.mono Ba.out.size))
  obtain ⟨At, ct, hTt⟩ := hTt
  generalize playP [] (opss.take 40) = st at *
  have Tt := Asd.mk hTt
  have lt1 : gt < wb.heap.size := hTt.lt
  have hle : st.length ≤ 1280 := LE.out
  clear hbb hTt PL
  go_wp2_with fail
  refine (among_calls most 9 (by omega) (by omega) _).mono ?_
  rintro e wc ⟨rfl, rfl⟩
  have ham := amongP_range most (n := 9) (by omega)
  generalize hmm : amongP most 9 = mm at ham ⊢
  obtain ⟨m, rfl⟩ : ∃ m : Nat, mm = m := ⟨mm.toNat, by omega⟩
  have hm8 : m ≤ 8 := by omega
  clear ham hmm
  go_wp2_with fail
  refine (Len_calls Tt.out).mono ?_
  rintro e wd ⟨rfl, rfl⟩
  go_wp2_with fail
  have hlim : (1 : Int) + (m : Int) = ((1 + m : Nat) : Int) := by omega
  rw [hlim]
  generalize hlm : 1 + m = lim
  have hl1 : 1 ≤ lim := by omega
  have hl9 : lim ≤ 9 := by omega
  clear hlim hlm hm8
  have T0 : Asd (∃ A c', Tab w.heap.size wc gt st A c' ∧ NeA A none) := ⟨At, ct, Tt.out, NeA.none_ _⟩
  go_loopw [6, 7, 22] (fun s6 s7 s22 wr => ∃ (k c cp : Nat) (Ap : Option Addr) (key : ByteArray), s6 = .slice Ap c cp ∧ s7 = .string key ∧ s22 = .int .i64 k ∧ k ≤ c ∧ c ≤ st.length ∧ key.size ≤ 64 ∧ Asd (pos key st = c) ∧ Asd (Below w.heap.size w wr) ∧ Asd (wc.heap.size ≤ wr.heap.size) ∧ Asd (∃ A c', Tab w.heap.size wr gt st A c' ∧ NeA A Ap) ∧ Asd (wr.ownsRow wc.heap.size 53 3 (.slice Ap c cp) c (rowCells (st.take c)))) (fun _ _ s22 _ => (st.length + 2) - (intOf s22).toNat)
  case atStart => exact ⟨0, 0, 0, none, ⟨#[]⟩, rfl, rfl, rfl, by omega, by omega, by decide, ⟨pos_nil st⟩, Bb, ⟨Nat.le_refl _⟩, T0, ⟨World.ownsRow_nil _ _ _ _⟩⟩
  case round =>
    obtain ⟨k, c, cp, Ap, key, rfl, rfl, rfl, hkc, hcn, hk64, PK, BW, SW, TW, OW⟩ := hrel
    have hkn : k < st.length + 1 := by omega
    obtain ⟨A, c', hT, hNe⟩ := TW.out
    have fx : Fits ⟨6, key, ⟨#[]⟩, 0, 0, (lim : Int)⟩ := ⟨by show key.size ≤ _; omega, by show (⟨#[]⟩ : ByteArray).size ≤ _; decide⟩
    have hdo := Do1op2 hT ⟨6, key, ⟨#[]⟩, 0, 0, (lim : Int)⟩ fx rfl
    have hds : doP st [⟨6, key, ⟨#[]⟩, 0, 0, (lim : Int)⟩] = ⟨st, [⟨0, 0, ⟨#[]⟩, (st.drop c).take (min lim (st.length - c))⟩], 0, 0⟩ := by
      rw [doP_one, if_pos (page_ok hl1 (by omega) hk64), page_res PK.out hl1 hcn]
    rw [hds] at hdo
    simp only at hdo
    have DO := Asd.mk hdo
    have TK := Asd.mk hT
    have NE := Asd.mk hNe
    clear hT hNe hdo hds fx
    have hgl : gt < wr.heap.size := TK.out.lt
    go_wp2_with fail
    refine DO.out.mono ?_
    rintro e w3 ⟨As, ns, cs, r1, B1, rfl, hg3, ⟨A3, c3, hT3, hF3, hN3⟩, hR3, hM3, hB3⟩
    obtain ⟨q, rfl, hq⟩ := res_single hM3 rfl
    have hns : ns = 1 := by have := hR3.len; simp [resCells, RRes.enc] at this; omega
    subst hns
    have hB3' : Below w.heap.size w w3 := BW.out.grown hg3 BW.out.size (fun j hj => by injection hj with hj; omega)
    have gR3 : ∀ j, some gt = some j → IsT wr j 71 ∧ w.heap.size ≤ j := fun j hj => by
      injection hj with hj
      subst hj
      exact ⟨⟨_, _, TK.out.blk⟩, TK.out.ge⟩
    have hO3 := own_grownR OW.out hg3 (fun j hj => (gR3 j hj).1) (by decide)
    have hal : Below w3.heap.size w3 (w3.alloc (.cells #[.int .i64 0, .int .i64 0] 32)) := (Below.refl _ _).alloc (Nat.le_refl _) _
    have hPl : ∀ a, Ap = some a → a.block < wr.heap.size := fun a ha => (OW.out.lt a.block (by rw [ha]; rfl)).2
    have B4 := Asd.mk (hB3'.trans (hal.mono hB3'.size))
    have S4 : Asd (wc.heap.size ≤ (w3.alloc (.cells #[.int .i64 0, .int .i64 0] 32)).heap.size) := ⟨Nat.le_trans SW.out (Nat.le_trans hg3.size hal.size)⟩
    have T4 := Asd.mk (hT3.below hal)
    have N4 := Asd.mk (NE.out.fr hF3 hPl)
    have O4 := Asd.mk (hO3.kept (gb_below hal none) (by cases (Value.slice Ap c cp).ownBlock <;> simp))
    have Q4 := Asd.mk (hR3.below hal)
    have M4 := Asd.mk (RMs.below hM3 hal)
    have hF4 : FBox w.heap.size (w3.alloc (.cells #[.int .i64 0, .int .i64 0] 32)) w3.heap.size 0 0 := Rd.new_ rfl rfl
    have F4 := Asd.mk hF4
    have h34 : w3.heap.size < (w3.alloc (.cells #[.int .i64 0, .int .i64 0] 32)).heap.size := alloc_lt _ _
    clear hg3 hT3 hF3 hN3 hR3 hM3 hB3 hq hB3' gR3 hO3 hal hPl hF4
    go_wp2_with fail
    generalize w3.heap.size = fb at F4 h34 ⊢
    generalize (w3.alloc (.cells #[.int .i64 0, .int .i64 0] 32)) = w4 at B4 S4 T4 N4 O4 Q4 M4 F4 h34 ⊢
    obtain ⟨f0, f1⟩ := FBox.cell F4.out
    obtain ⟨gb, go, rfl, hgb, hgl4, hes⟩ := Q4.out.at_enc (enc := RRes.enc) (fun _ => rfl) (by omega) (i := 0) (by omega)
    have e0 : w4.cell? ⟨gb, go, none⟩ = some (.int .i64 q.code) := hes 0 _ rfl
    have e3 : w4.cell? ⟨gb, go + 3, none⟩ = some (.slice q.A q.n q.c) := hes 3 _ rfl
    rw [M4.out.1.code] at e0
    simp only at e0
    have hrd := M4.out.1.rd
    have hqn := hrd.count (enc := Rw.enc) (fun _ => rfl) (by omega)
    simp only [List.length_take, List.length_drop, Nat.min_assoc, Nat.min_self] at hqn
    generalize hmin : min lim (st.length - c) = mr at hqn hrd M4
    have hqn2 : q.n = mr := by omega
    rw [hqn2] at e3 hrd
    have QN := Asd.mk hqn2
    have RD := Asd.mk hrd
    have hmr1 : mr ≤ lim := by omega
    have hmr2 : c + mr ≤ st.length := by omega
    have MIN := Asd.mk hmin
    clear hes hqn hrd hmin hqn2
    have hlm : ¬ ((lim : Int) < (mr : Int)) := by omega
    have hap : rowCells (st.take c) ++ rowCells ((st.drop c).take mr) = rowCells (st.take (c + mr)) := by
      rw [← page_app]; simp [rowCells]
    have hgr : ∀ j, (Value.slice Ap c cp).ownBlock = some j → IsT w4 j 53 ∧ w.heap.size ≤ j := fun j hj => ⟨(own_ist O4.out j hj).1, Nat.le_trans Bb.out.size (own_ist O4.out j hj).2⟩
    have APP := Asd.mk hap
    have GR := Asd.mk hgr
    clear hap hgr
    by_cases hbr : mr < lim
    · go_wp2_with (at_builtin; refine wpList_append_mine_at (base := w.heap.size) (own := wc.heap.size) (n := c) (m := mr) (v := .slice Ap c cp) (xs := rowCells (st.take c)) (ys := rowCells ((st.drop c).take mr)) rfl (.tmp 57) (.tmp 61) 37 rfl elt_row rfl rfl O4.out RD.out (row_one _) (by simp only [maxLen]; omega) (by omega) S4.out ?_; intro v5 w5 O5' G5' H5'; obtain ⟨Ap5, cp5, rfl, RP5⟩ := Rd.of_own (base := w.heap.size) O5'; rw [APP.out] at O5' RP5; have O5 := Asd.mk O5'; have G5 := Asd.mk G5'; have H5 := Asd.mk H5'; have q5 := (Rd.grownR Q4.out G5' GR.out (by decide)).at_enc (enc := RRes.enc) (fun _ => rfl) (by omega) (i := 0) (by omega); obtain ⟨gb', go', hgo', _, _, hes5⟩ := q5; cases hgo'; have e5 : w5.cell? ⟨gb, go + 3, none⟩ = some (.slice q.A q.n q.c) := hes5 3 _ rfl; rw [QN.out] at e5; have RQ := Asd.mk RP5; clear O5' G5' H5' hes5 RP5)
      have hT5 := Tab.apart T4.out O4.out G5.out N4.out
      have hB5 := B4.out.grown G5.out B4.out.size (fun j hj => (GR.out j hj).2)
      have hall : c + mr = st.length := by have := MIN.out; omega
      have RA := Asd.mk (rows_all st)
      have B5 := Asd.mk hB5
      clear hB5
      refine (Rows_calls hT5 ⟨⟨#[]⟩, ⟨#[]⟩⟩).mono ?_
      rw [RA.out]
      rintro e w6 ⟨R1, d1, rfl, hr1, _, hb1⟩
      have B6 := Asd.mk (B5.out.trans (hb1.mono B5.out.size))
      have RQ6 := RQ.out.below hb1
      rw [hall, List.take_of_length_le (Nat.le_refl _)] at RQ6
      have RQ7 := Asd.mk RQ6
      have R1' := Asd.mk hr1
      clear hb1 hr1 RQ6 hT5
      rw [hall]
      go_wp2_with fail
      refine (SameRows_calls RQ7.out R1'.out (by omega)).mono ?_
      rintro e w7 ⟨rfl, hb7⟩
      have B7 := Asd.mk (B6.out.trans (hb7.mono B6.out.size))
      clear hb7
      go_wp2_with fail
      go_ret
      exact ⟨by simp, B7.out⟩
    · have hj0 : 1 ≤ c + mr := by omega
      have hw1 : wrap64 (((c : Int) + (mr : Int)) - 1) = ((c + mr - 1 : Nat) : Int) := by unfold wrap64; omega
      have hw2 : wrap64 (((c + mr : Nat) : Int) - 1) = ((c + mr - 1 : Nat) : Int) := by unfold wrap64; omega
      have hjl : c + mr - 1 < st.length := by omega
      have hjc : c + mr - 1 < c + mr := by omega
      have hks := rowOk_key (RK.out _ (List.getElem_mem hjl))
      have hnx := page_next SO.out hjl
      rw [show c + mr - 1 + 1 = c + mr from by omega] at hnx
      have NX := Asd.mk hnx
      clear hnx
      go_wp2_with (at_builtin; refine wpList_append_mine_at (base := w.heap.size) (own := wc.heap.size) (n := c) (m := mr) (v := .slice Ap c cp) (xs := rowCells (st.take c)) (ys := rowCells ((st.drop c).take mr)) rfl (.tmp 57) (.tmp 61) 37 rfl elt_row rfl rfl O4.out RD.out (row_one _) (by simp only [maxLen]; omega) (by omega) S4.out ?_; intro v5 w5 O5' G5' H5'; obtain ⟨Ap5, cp5, rfl, RP5⟩ := Rd.of_own (base := w.heap.size) O5'; rw [APP.out] at O5' RP5; have O5 := Asd.mk O5'; have G5 := Asd.mk G5'; have H5 := Asd.mk H5'; have q5 := (Rd.grownR Q4.out G5' GR.out (by decide)).at_enc (enc := RRes.enc) (fun _ => rfl) (by omega) (i := 0) (by omega); obtain ⟨gb', go', hgo', _, _, hes5⟩ := q5; cases hgo'; have e5 : w5.cell? ⟨gb, go + 3, none⟩ = some (.slice q.A q.n q.c) := hes5 3 _ rfl; rw [QN.out] at e5; obtain ⟨pb, po, rfl, _, hpi, hpc⟩ := RP5.at_enc (enc := Rw.enc) (fun _ => rfl) (by omega) hjc; have p0 : w5.cell? ⟨pb, po + (c + mr - 1) * 3, none⟩ = some (.string st[c + mr - 1].key) := (hpc 0 _ rfl).trans (by rw [List.getElem_take]); clear hpc; have RQ := Asd.mk RP5; clear O5' G5' H5' hes5 RP5)
      all_goals
        have hB5 := B4.out.grown G5.out B4.out.size (fun j hj => (GR.out j hj).2)
        have hT5 := Tab.apart T4.out O4.out G5.out N4.out
      · go_ret
        exact ⟨rfl, hB5⟩
      · rename_i hsz
        have hk5 : (st[c + mr - 1].key ++ ⟨#[0]⟩ : ByteArray).size ≤ 64 := by
          have : (st[c + mr - 1].key ++ ⟨#[0]⟩ : ByteArray).size = st[c + mr - 1].key.size + 1 := by simp; rfl
          omega
        have S5 : wc.heap.size ≤ w5.heap.size := Nat.le_trans S4.out G5.out.size
        have N5 := NeA.step N4.out H5.out (fun a ha => T4.out.old a ha)
        go_roundw
        case measure => simp [intOf]; omega
        case rel => exact ⟨k + 1, c + mr, cp5, _, _, rfl, rfl, by go_num, by omega, by omega, hk5, NX, ⟨hB5⟩, ⟨S5⟩, ⟨_, _, hT5, N5⟩, O5⟩
end Go.Proofs.Ytehfaeafefkngaa

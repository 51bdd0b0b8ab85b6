/- TopClient. -/
import Derived.Test.YtallnibjmffahaaGreatDoorJ33
import Derived.Test.YtallnibjmffahaaGreatDoorJ34
import Derived.Test.YtallnibjmffahaaGreatDoorJ35
import Derived.Test.YtallnibjmffahaaGreatDoorJ37
import Derived.Test.YtallnibjmffahaaGreatDoorJ39
import Derived.Test.YtallnibjmffahaaGreatDoorJ40
import Derived.Deep.CutBlock
set_option linter.unusedVariables false
set_option linter.unusedSimpArgs false
namespace Go.Proofs.YtallnibjmffahaaGreatDoor
open Go.RowKit

theorem rel_next {E : Env} {w W : World} {i n : Nat} {v12 v13 v14 : Value} (h : Asd (HeadS E w (i + 1) v12 v13 v14 W)) (h1 : i < n) (h2 : i < 120) : ∃ j : Nat, Value.int .i64 ((i : Int) + 1) = .int .i64 (j : Int) ∧ j ≤ n ∧ j ≤ 120 ∧ Asd (HeadS E w j v12 v13 v14 W) :=
  ⟨i + 1, by rw [Int.natCast_succ], h1, h2, h⟩

set_option maxHeartbeats 8000000 in
set_option maxRecDepth 100000 in
theorem Client_walk {w : World} {A : Option Addr} {n c : Nat} {ss : List StepR} (dp : Int) (hS : Steps w.heap.size w A n c ss) :
    Calls Tryz.prog 3 #[.int .i64 dp, .slice A n c] w fun e w' => e = .returned (.bool true) ∧ Below w.heap.size w w' := by
  have AM := Asd.mk (fun (x m : Int) (h0 : 0 < m) (h1 : m ≤ 1000) (W : World) => among_calls x m h0 h1 W)
  obtain ⟨an, han, hd⟩ : ∃ an : Nat, amongP dp 5 = an ∧ an ≤ 4 := by
    have h := amongP_range dp (n := 5) (by decide)
    exact ⟨(amongP dp 5).toNat, by omega, by omega⟩
  have A5 : Asd (Calls Tryz.prog 5 #[.int .i64 dp, .int .i64 5] w (fun e w' => e = .returned (.int .i64 (an : Int)) ∧ w = w')) := ⟨by
    have h := among_calls dp 5 (by decide) (by decide) w
    rw [han] at h
    exact h.mono fun e w' k => ⟨k.1, k.2.symm⟩⟩
  have DN : Asd (Calls Tryz.prog 4 #[.int .i64 (1 + (an : Int))] w (fun e w' => ∃ bb mb, e = .returned (.tuple #[.pointer (some ⟨bb, 0, none⟩), .int .i64 0]) ∧ BookAt w.heap.size w' bb mb (1 + an) none 0 0 [] ∧ w.heap.size ≤ bb ∧ w.heap.size ≤ mb ∧ Below w.heap.size w w')) := ⟨by
    have h := DNew_calls w.heap.size w (Nat.le_refl _) (1 + an) (by omega) (by omega)
    have e : ((1 + an : Nat) : Int) = 1 + (an : Int) := by omega
    rw [e] at h
    exact h⟩
  have HS := Asd.mk hS
  clear han hS
  go_enter Tryz.func3, Tryz.ntmps3
  go_wp2_with fail
  refine A5.out.mono ?_
  rintro e w1 ⟨rfl, rfl⟩
  go_wp2_with fail
  refine DN.out.mono ?_
  rintro e w2 ⟨bb, mb, rfl, hbk, hbb, hmb, hb2⟩
  have BK2 := Asd.mk hbk
  have B2 := Asd.mk hb2
  have BM := Asd.mk (And.intro hbb hmb)
  have hi2 := (Below.refl w2.heap.size w2).alloc (Nat.le_refl _) (.cells #[.int .i64 1] 3)
  have CN := Asd.mk (CNew_calls (base := w.heap.size) (w := w2.alloc (.cells #[.int .i64 1] 3)) (A := some ⟨w2.heap.size, 0, none⟩) (c := 1) ⟨Rd.new_ rfl rfl⟩)
  clear hbk hbb hmb hb2 hi2 A5 DN
  go_wp2_with fail
  refine CN.out.mono ?_
  rintro e w3 ⟨g, wb, wA, wc, rfl, hcl, hwt, hwb, hwg, hb3⟩
  have hi2 : w2.heap.size ≤ (w2.alloc (.cells #[.int .i64 1] 3)).heap.size := by simp
  have B3 := Asd.mk (B2.out.trans (((Below.refl w2.heap.size w2).alloc (Nat.le_refl _) (.cells #[.int .i64 1] 3) |>.trans (hb3.mono hi2)).mono B2.out.size))
  have BK3 := Asd.mk ((BK2.out.below ((Below.refl w2.heap.size w2).alloc (Nat.le_refl _) (.cells #[.int .i64 1] 3))).below hb3)
  have CL3 := Asd.mk hcl
  have WT3 := Asd.mk hwt
  have GW := Asd.mk (And.intro (Nat.le_trans B2.out.size (Nat.le_trans hi2 hwb)) hwg)
  have TN := Asd.mk (New_calls w.heap.size w3 B3.out.size)
  clear hcl hwt hwb hwg hb3 hi2 CN BK2
  go_wp2_with fail
  refine TN.out.mono ?_
  rintro e w4 ⟨tg, rfl, htb, htg, hb4⟩
  have B4 := Asd.mk (B3.out.trans (hb4.mono B3.out.size))
  have BK4 := Asd.mk (BK3.out.below hb4)
  have CL4 := Asd.mk (CL3.out.below hb4)
  have WT4 := Asd.mk (WT3.out.keep (hb4.block _ WT3.out.lt))
  have TB4 := Asd.mk htb
  have TG := Asd.mk (Nat.le_trans B3.out.size htg)
  have JD := Asd.mk (judges_calls w4)
  clear htb htg hb4 TN BK3 CL3 WT3
  go_wp2_with fail
  refine JD.out.mono ?_
  rintro e w5 ⟨rfl, hb5⟩
  have B5 := Asd.mk (B4.out.trans (hb5.mono B4.out.size))
  have BK5 := Asd.mk (BK4.out.below hb5)
  have CL5 := Asd.mk (CL4.out.below hb5)
  have WT5 := Asd.mk (WT4.out.keep (hb5.block _ WT4.out.lt))
  have TB5 := Asd.mk (TB4.out.below hb5)
  clear hb5 JD BK4 CL4 WT4 TB4
  go_wp2_with fail
  have al6 := ((Below.refl w5.heap.size w5).alloc (Nat.le_refl _) (.cells #[.slice none 0 0] 37)).alloc (by simp) (.cells #[.slice none 0 0] 37)
  have hu6 : ((w5.alloc (.cells #[.slice none 0 0] 37)).alloc (.cells #[.slice none 0 0] 37)).heap[w5.heap.size]? = some (.cells #[.slice none 0 0] 37 (0, 0)) := (heap_alloc_old _ _ (by simp)).trans (heap_alloc_new w5 _)
  have hd6 : ((w5.alloc (.cells #[.slice none 0 0] 37)).alloc (.cells #[.slice none 0 0] 37)).heap[w5.heap.size + 1]? = some (.cells #[.slice none 0 0] 37 (0, 0)) := by
    have h := heap_alloc_new (w5.alloc (.cells #[.slice none 0 0] 37)) (.cells #[.slice none 0 0] 37)
    simpa using h
  have hz6 : w5.heap.size + 1 < ((w5.alloc (.cells #[.slice none 0 0] 37)).alloc (.cells #[.slice none 0 0] 37)).heap.size := by simp
  generalize (w5.alloc (.cells #[.slice none 0 0] 37)).alloc (.cells #[.slice none 0 0] 37) = w6 at al6 hu6 hd6 hz6 ⊢
  obtain ⟨E, hB0, hB1, rfl, rfl, rfl, rfl, rfl, hub, hdb, hdp, hk⟩ : ∃ E : Env, E.B0 = w.heap.size ∧ E.B1 = w6.heap.size ∧ E.g = g ∧ E.wb = wb ∧ E.bb = bb ∧ E.mb = mb ∧ E.tg = tg ∧ E.ub = w5.heap.size ∧ E.db = w5.heap.size + 1 ∧ E.depth = 1 + an ∧ E.k = cliK7 wA wc :=
    ⟨⟨w.heap.size, w6.heap.size, g, wb, bb, mb, tg, w5.heap.size, w5.heap.size + 1, 1 + an, cliK7 wA wc⟩, rfl, rfl, rfl, rfl, rfl, rfl, rfl, rfl, rfl, rfl, rfl⟩
  have EO : Asd (EnvOk E) := ⟨by
    have hg5 := CL5.out.lt
    have h5 := B5.out.size
    have hz := al6.size
    obtain ⟨x1, x2⟩ := GW.out
    obtain ⟨x3, x4⟩ := BM.out
    have x5 := TG.out
    refine ⟨by omega, by omega, by omega, by omega, by omega, by omega, by omega, by omega, by omega, by omega, by omega, by omega, by omega, ?_, by rw [hk]; rfl, by rw [hk]; rfl, by omega⟩
    rw [hk]
    exact ⟨show (0 : Int) ≤ 3 ∧ (3 : Int) ≤ 1000 by decide, show (0 : Int) ≤ 3 ∧ (3 : Int) ≤ 1000 by decide, show (0 : Int) ≤ 1 ∧ (1 : Int) ≤ 1073741824 by decide⟩⟩
  have B6 : Asd (Below E.B0 w w6) := ⟨by rw [hB0]; exact B5.out.trans (al6.mono B5.out.size)⟩
  have HD : Asd (HeadS E w 0 (.slice none 0 0) (.slice none 0 0) (.int .i64 0) w6) := ⟨by
    refine ⟨0, [], [], [], [], [], [], cliR0, [], ⟨#[]⟩, rfl, by decide, by decide, ⟨⟨?_, ?_, fun e => by simp [cliR0] at e⟩, ⟨⟨none, 0, 0, ?_, Nat.zero_le _⟩, ⟨none, 0, ?_⟩⟩, ⟨none, none, ⟨0, ?_, World.ownsRow_nil _ _ _ _⟩, ⟨0, ?_, World.ownsRow_nil _ _ _ _⟩, fun a b e => by cases e⟩, ⟨World.ownsRow_nil _ _ _ _, fun x hx => by simp at hx⟩, World.ownsRow_nil _ _ _ _, by rw [hB1]; exact Nat.le_refl _⟩, PI.start, ⟨by decide, by decide, by decide, rfl, fun e => by simp [cliR0] at e⟩, rfl, rfl, rfl, rfl, B6.out⟩
    · rw [hk]
      exact CL5.out.below al6
    · rw [hk]
      exact WT5.out.keep (al6.block _ WT5.out.lt)
    · rw [hB0, hdp]
      exact BK5.out.below al6
    · rw [hB0]
      exact TB5.out.below al6
    · rw [hub]
      exact hu6
    · rw [hdb]
      exact hd6⟩
  rw [← hdb, ← hub]
  have HW0 : Asd (w.heap.size = E.B0) := ⟨hB0.symm⟩
  clear hB0 hB1 hdb hub hdp hk hu6 hd6 hz6 al6 CL5 WT5 TB5 BK5 GW BM TG B5
  go_loopw [12, 13, 14, 15] (fun s12 s13 s14 s15 wr => ∃ i : Nat, s15 = .int .i64 i ∧ i ≤ n ∧ i ≤ 120 ∧ Asd (HeadS E w i s12 s13 s14 wr)) (fun _ _ _ s15 _ => 120 - (intOf s15).toNat)
  case atStart => exact ⟨0, rfl, Nat.zero_le _, by omega, HD⟩
  case round => as_aux_lemma =>
    obtain ⟨i, rfl, hin, hi2, HE⟩ := hrel
    clear HD B6
    have FIN : Asd (∀ v12 v13 v14, HeadS E w i v12 v13 v14 wr → ∃ hA hn hc oA on oc, v12 = .slice hA hn hc ∧ v13 = .slice oA on oc ∧ Below E.B0 w wr ∧ Calls Tryz.prog 15 #[.slice hA hn hc, .slice oA on oc] wr (fun e w' => e = .returned (.agg #[.int .i64 0, .int .i64 0]) ∧ Below wr.heap.size wr w')) := ⟨fun v12 v13 v14 h => by
      obtain ⟨now, hs, os, ups, dns, reps, rows, x, rq, s, h1, h2, h3, hm, hp, hc, h4, h5, h6, h7, h8⟩ := h
      obtain ⟨hA, hc, rfl, hrd⟩ := Rd.of_own (base := E.B0) hm.mh.own
      obtain ⟨oA, oc, rfl, ord⟩ := Rd.of_own (base := E.B0) hm.mo
      refine ⟨hA, _, hc, oA, _, oc, rfl, rfl, h8, ?_⟩
      have hj := hp.judge hi2
      have hl := hp.olen
      have hJ := Judge_calls (base := E.B0) (hs := hs) (os := os) ⟨hrd, hm.mh.ins, by have := hp.len; omega⟩ ⟨ord, by omega⟩ (Nat.le_trans EO.out.le hm.b1)
      rw [hj] at hJ
      exact hJ⟩
    by_cases hl1 : i < n
    · by_cases hl2 : i < 120
      · clear FIN
        obtain ⟨now, hs, os, ups, dns, reps, rows, x, rq, s, rfl, hnow1, hnow2, hm, hpi, hcp, hx1, hx2, hx3, hx4, hbw⟩ := HE.out
        have BW := Asd.mk hbw
        have MM := Asd.mk hm
        have PP := Asd.mk hpi
        have CP := Asd.mk hcp
        have XX := Asd.mk (And.intro hx1 (And.intro hx2 (And.intro hx3 hx4)))
        have NW := Asd.mk (And.intro hnow1 hnow2)
        clear hm hpi hcp hx1 hx2 hx3 hx4 hbw hnow1 hnow2 HE
        have SW := Asd.mk (HS.out.below0 (w' := wr) (by rw [HW0.out]; exact BW.out) (fun b hb => hb))
        obtain ⟨b, off, rfl, hbl, hil, hcs⟩ := SW.out.rd.at_enc (enc := StepR.enc) (fun _ => rfl) (by omega) hl1
        have hcap := SW.out.rd.cap
        have hic : i < c := Nat.lt_of_lt_of_le hl1 hcap
        have SI := Asd.mk (SW.out.ins _ (List.getElem_mem hil))
        generalize ss[i] = y at hcs SI
        have e0 := hcs 0 _ rfl
        have e1 := hcs 1 _ rfl
        have e2 := hcs 2 _ rfl
        rw [Nat.add_zero] at e0
        obtain ⟨kd, hkd, hkl⟩ : ∃ kd : Nat, amongP y.kind 8 = kd ∧ kd ≤ 7 := by
          have h := amongP_range y.kind (n := 8) (by decide)
          exact ⟨(amongP y.kind 8).toNat, by omega, by omega⟩
        have AK : Asd (∀ W, Calls Tryz.prog 5 #[.int .i64 y.kind, .int .i64 8] W (fun e w' => e = .returned (.int .i64 (kd : Int)) ∧ W = w')) := ⟨fun W => by
          have h := AM.out y.kind 8 (by decide) (by decide) W
          rw [hkd] at h
          exact h.mono fun e w' k => ⟨k.1, k.2.symm⟩⟩
        clear hkd hcs hcap hil SW
        go_upto_if 84 with (go_at_call 5; refine (AK.out _).mono ?_; rintro e w' ⟨rfl, rfl⟩)
        have x0 : (wr.alloc (.cells #[.int .i64 y.kind, .int .i64 y.i, .slice y.oA y.on y.oc] 41)).cell? ⟨wr.heap.size, 0, none⟩ = some (.int .i64 y.kind) := (cell_of_row _ _ 0 _ _ _ (heap_alloc_new wr _)).trans rfl
        have x1 : (wr.alloc (.cells #[.int .i64 y.kind, .int .i64 y.i, .slice y.oA y.on y.oc] 41)).cell? ⟨wr.heap.size, 1, none⟩ = some (.int .i64 y.i) := (cell_of_row _ _ 1 _ _ _ (heap_alloc_new wr _)).trans rfl
        have x2 : (wr.alloc (.cells #[.int .i64 y.kind, .int .i64 y.i, .slice y.oA y.on y.oc] 41)).cell? ⟨wr.heap.size, 2, none⟩ = some (.slice y.oA y.on y.oc) := (cell_of_row _ _ 2 _ _ _ (heap_alloc_new wr _)).trans rfl
        have BX := Asd.mk ((Below.refl wr.heap.size wr).alloc (Nat.le_refl _) (.cells #[.int .i64 y.kind, .int .i64 y.i, .slice y.oA y.on y.oc] 41))
        have XS' : ∃ cs, (wr.alloc (.cells #[.int .i64 y.kind, .int .i64 y.i, .slice y.oA y.on y.oc] 41)).heap[wr.heap.size]? = some (.cells cs 41 (0, 0)) := ⟨_, heap_alloc_new wr _⟩
        have xl : wr.heap.size < (wr.alloc (.cells #[.int .i64 y.kind, .int .i64 y.i, .slice y.oA y.on y.oc] 41)).heap.size := by simp
        clear e0 e1 e2 hbl
        generalize wr.alloc (.cells #[.int .i64 y.kind, .int .i64 y.i, .slice y.oA y.on y.oc] 41) = wx at x0 x1 x2 BX XS' xl ⊢
        have XS := Asd.mk XS'
        clear XS'
        have hkz : (0 : Int) ≤ (kd : Int) := by omega
        go_cut [17] from 85 to 272 (fun s17 wc => ∃ lb : Nat, s17 = .pointer (some ⟨lb, 0, none⟩) ∧ Asd (lb = if kd % 2 = 1 then E.db else E.ub) ∧ Asd (wx = wc))
        case first => as_aux_lemma =>
          by_cases hp : kd % 2 = 1
          · have hp1 : ((kd : Int) % 2 == 1) = true := by simp; omega
            go_wp2_with fail
            go_meet
            case rel => exact ⟨E.db, rfl, ⟨by rw [if_pos hp]⟩, ⟨rfl⟩⟩
          · have hp1 : ((kd : Int) % 2 == 1) = false := by simp; omega
            go_wp2_with fail
            go_meet
            case rel => exact ⟨E.ub, rfl, ⟨by rw [if_neg hp]⟩, ⟨rfl⟩⟩
        case rest => as_aux_lemma =>
          obtain ⟨lb, rfl, LB, WX⟩ := hcut
          have hwx := WX.out
          subst hwx
          clear WX
          have MX := Asd.mk (fun W (hW : Below wr.heap.size wr W) => MM.out.below hW EO.out.le)
          obtain ⟨LL, hLL⟩ : ∃ LL : List ByteArray, LL = if kd % 2 = 1 then dns else ups := ⟨_, rfl⟩
          have HLL := Asd.mk hLL
          have hll : LL.length ≤ 240 := by
            rw [hLL]
            have h1 := PP.out.ul
            have h2 := PP.out.dl
            split <;> omega
          obtain ⟨lA, lc, hlb, hlo⟩ : ∃ lA lc, wx.heap[lb]? = some (.cells #[.slice lA LL.length lc] 37 (0, 0)) ∧ wx.ownsRow E.B1 9 1 (.slice lA LL.length lc) LL.length (strs LL) := by
            obtain ⟨uA, dA, ⟨uc, u1, u2⟩, ⟨dc, d1, d2⟩, _⟩ := (MX.out _ BX.out).ml.ex
            rw [LB.out, hLL]
            split
            · exact ⟨dA, dc, d1, d2⟩
            · exact ⟨uA, uc, u1, u2⟩
          have l0 : wx.cell? ⟨lb, 0, none⟩ = some (.slice lA LL.length lc) := (cell_of_row _ _ 0 _ _ _ hlb).trans rfl
          have lbl : lb < wx.heap.size := (Array.getElem?_eq_some_iff.1 hlb).1
          clear hlb hlo hLL
          go_upto_if 89 with fail
          go_cut [18] from 90 to 272 (fun s18 wc => ∃ kk : Int, s18 = .int .i64 kk ∧ Asd (0 < LL.length → 0 ≤ kk ∧ kk < LL.length) ∧ Asd (∃ q, wc = wx.drewN q))
          case first => as_aux_lemma =>
            by_cases hz : LL.length = 0
            · go_wp2_with fail
              go_meet
              case rel => exact ⟨0, rfl, ⟨fun h => by omega⟩, ⟨0, rfl⟩⟩
            · have hzp : 0 < LL.length := by omega
              have AI := Asd.mk (fun W => AM.out y.i LL.length (by omega) (by omega) W)
              have AR := Asd.mk (amongP_range y.i (n := (LL.length : Int)) (by omega))
              go_wp2_with fail
              go_quiet ((go_at_call 5; exact Calls.quiet_of_same (AI.out _)))
              go_wp2_with fail
              go_meet
              case rel => exact ⟨_, rfl, ⟨fun _ => AR.out⟩, ⟨_, rfl⟩⟩
          case rest => as_aux_lemma =>
            obtain ⟨kk, rfl, KK, DQ⟩ := hcut
            have BC : Asd (Below wr.heap.size wr wc) := ⟨by
              obtain ⟨q, hq⟩ := DQ.out
              rw [hq]
              exact BX.out.trans (below_dn wx q)⟩
            have y0 : wc.cell? ⟨wr.heap.size, 0, none⟩ = some (.int .i64 y.kind) := by
              obtain ⟨q, hq⟩ := DQ.out
              rw [hq]
              exact x0
            have y1 : wc.cell? ⟨wr.heap.size, 2, none⟩ = some (.slice y.oA y.on y.oc) := by
              obtain ⟨q, hq⟩ := DQ.out
              rw [hq]
              exact x2
            have xl2 : wr.heap.size < wc.heap.size := by
              obtain ⟨q, hq⟩ := DQ.out
              rw [hq]
              exact xl
            have XB : Asd (∃ cs, wc.heap[wr.heap.size]? = some (.cells cs 41 (0, 0))) := ⟨by
              obtain ⟨q, hq⟩ := DQ.out
              obtain ⟨cs, hcs⟩ := XS.out
              rw [hq]
              exact ⟨cs, hcs⟩⟩
            clear x0 x1 x2 xl l0 lbl DQ BX
            go_upto_block 2 with (go_at_call 5; refine (AK.out _).mono ?_; rintro e w' ⟨rfl, rfl⟩)
            go_cut [12, 13, 14] from 97 to 231 (fun s12 s13 s14 wc => Asd (MidS E w i s12 s13 s14 wc))
            case first => as_aux_lemma =>
              have HPx : Asd (HP E w i wc u12 u13 now hs os ups dns reps rows x rq s) := ⟨⟨EO.out, MX.out _ BC.out, PP.out, CP.out, XX.out.1, XX.out.2, NW.out.1, NW.out.2, hl2, BW.out.trans (BC.out.mono (Nat.le_trans EO.out.le MM.out.b1))⟩⟩
              have SE : Asd (StepIn E.B0 wc y) := ⟨by
                have h := SI.out
                rw [HW0.out] at h
                exact ⟨h.rdo.below BC.out, h.fits, h.obig⟩⟩
              have B1R : Asd (E.B1 ≤ wr.heap.size) := ⟨MM.out.b1⟩
              have hk8 : kd = 0 ∨ kd = 1 ∨ kd = 2 ∨ kd = 3 ∨ kd = 4 ∨ kd = 5 ∨ kd = 6 ∨ kd = 7 := by omega
              clear MX MM SI BW BC AK AM PP CP XX NW HS
              rcases hk8 with rfl | rfl | rfl | rfl | rfl | rfl | rfl | rfl
              · as_aux_lemma =>
                refine arm0 HPx.out SE.out y1 xl2 B1R.out ?_
                intros
                rename_i W' hfin
                have FIN := Asd.mk hfin
                clear hfin
                go_wp2_with fail
                go_meet
                case rel => exact FIN
              · as_aux_lemma =>
                refine arm1 HPx.out ?_
                intros
                rename_i W' hfin
                have FIN := Asd.mk hfin
                clear hfin
                go_wp2_with fail
                go_meet
                case rel => exact FIN
              · as_aux_lemma =>
                have hlb : E.ub = lb := LB.out.symm
                have hLL : ups = LL := HLL.out.symm
                subst hlb hLL
                refine arm2 HPx.out KK.out ?_
                intros
                rename_i W' hfin
                have FIN := Asd.mk hfin
                clear hfin
                go_wp2_with fail
                go_meet
                case rel => exact FIN
              · as_aux_lemma =>
                have hlb : E.db = lb := LB.out.symm
                have hLL : dns = LL := HLL.out.symm
                subst hlb hLL
                refine arm3 HPx.out KK.out ?_
                intros
                rename_i W' hfin
                have FIN := Asd.mk hfin
                clear hfin
                go_wp2_with fail
                go_meet
                case rel => exact FIN
              · as_aux_lemma =>
                have hlb : E.ub = lb := LB.out.symm
                have hLL : ups = LL := HLL.out.symm
                subst hlb hLL
                refine arm4 HPx.out KK.out ?_
                intros
                rename_i W' hfin
                have FIN := Asd.mk hfin
                clear hfin
                go_wp2_with fail
                go_meet
                case rel => exact FIN
              · as_aux_lemma =>
                have hlb : E.db = lb := LB.out.symm
                have hLL : dns = LL := HLL.out.symm
                subst hlb hLL
                refine arm5 HPx.out KK.out ?_
                intros
                rename_i W' hfin
                have FIN := Asd.mk hfin
                clear hfin
                go_wp2_with fail
                go_meet
                case rel => exact FIN
              · as_aux_lemma =>
                have hlb : E.ub = lb := LB.out.symm
                have hLL : ups = LL := HLL.out.symm
                subst hlb hLL
                refine arm6 HPx.out KK.out ?_
                intros
                rename_i W' hfin
                have FIN := Asd.mk hfin
                clear hfin
                go_wp2_with fail
                go_meet
                case rel => exact FIN
              · as_aux_lemma =>
                have hlb : E.db = lb := LB.out.symm
                have hLL : dns = LL := HLL.out.symm
                subst hlb hLL
                refine arm7 HPx.out KK.out ?_
                intros
                rename_i W' hfin
                have FIN := Asd.mk hfin
                clear hfin
                go_wp2_with fail
                go_meet
                case rel => exact FIN
            case rest => as_aux_lemma =>
              have H46 := Asd.mk hcut.out
              clear hcut AK AM LB HLL KK BC y0 y1 xl2 XB MX MM PP CP XX NW SI BW
              go_step
              refine wp_seq_k fun K2 hK2 => ?_
              refine tail46 (Q' := _) EO.out hl2 H46.out ?_
              intros
              rename_i W46 h46
              apply hK2
              refine tail51 EO.out hl2 h46 ?_
              intros
              rename_i W51 h51
              have FIN := Asd.mk h51
              clear h51 h46 H46 hK2
              go_wp2_with fail
              go_roundw
              case measure => simp [intOf]; omega
              case rel => exact rel_next FIN hl1 hl2
      · as_aux_lemma =>
        have hi3 : i = 120 := by omega
        subst hi3
        -- <<< X1
        obtain ⟨hA, hn, hc, oA, on, oc, rfl, rfl, h8, hJ⟩ := FIN.out _ _ _ HE.out
        have J := Asd.mk hJ
        have B8 := Asd.mk h8
        clear hJ h8 FIN HE
        go_wp2_with fail
        refine J.out.mono ?_
        rintro e w7 ⟨rfl, hb7⟩
        have B9 : Asd (Below w.heap.size w w7) := ⟨by rw [HW0.out]; exact B8.out.trans (hb7.mono (by have := B8.out.size; rw [← HW0.out]; exact this))⟩
        clear hb7
        go_wp2_with fail
        go_ret
        exact ⟨rfl, B9.out⟩
        -- >>>
    · as_aux_lemma =>
      -- <<< X2
      obtain ⟨hA, hn, hc, oA, on, oc, rfl, rfl, h8, hJ⟩ := FIN.out _ _ _ HE.out
      have J := Asd.mk hJ
      have B8 := Asd.mk h8
      clear hJ h8 FIN HE
      go_wp2_with fail
      refine J.out.mono ?_
      rintro e w7 ⟨rfl, hb7⟩
      have B9 : Asd (Below w.heap.size w w7) := ⟨by rw [HW0.out]; exact B8.out.trans (hb7.mono (by have := B8.out.size; rw [← HW0.out]; exact this))⟩
      clear hb7
      go_wp2_with fail
      go_ret
      exact ⟨rfl, B9.out⟩
      -- >>>
end Go.Proofs.YtallnibjmffahaaGreatDoor

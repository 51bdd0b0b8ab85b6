/- Rows; the document's Judge. The document's Judge. -/
import Derived.Test.YtlhjfblpinpjiaaC8
import Derived.Test.YtlhjfblpinpjiaaC7
import Derived.Test.YtlhjfblpinpjiaaTpg
set_option linter.unusedVariables false
set_option linter.unusedSimpArgs false
namespace Go.Proofs.Ytlhjfblpinpjiaa
open Go.RowKit Go.Maps

/-- The rows that an order leaves; nothing where it is wrong. -/
def leftP (hs : List CallR) (os : List Int) : List Rw := if judgeP hs os = (0, 0) then rowsP0 (callsOf hs os) else []
theorem leftP_ok {hs : List CallR} {os : List Int} (h : judgeP hs os = (0, 0)) : leftP hs os = rowsP0 (callsOf hs os) := by unfold leftP; rw [if_pos h]
theorem leftP_no {hs : List CallR} {os : List Int} (h : judgeP hs os ≠ (0, 0)) : leftP hs os = [] := by unfold leftP; rw [if_neg h]
def RowsPost (base : Nat) (w : World) (hs : List CallR) (os : List Int) (e : Ending) (w' : World) : Prop :=
  Below w.heap.size w w' ∧ ∃ A' c', e = .returned (.tuple #[.slice A' (leftP hs os).length c', .agg #[.int .i64 (judgeP hs os).1, .int .i64 (judgeP hs os).2]]) ∧ Rd base 86 w' 3 A' (leftP hs os).length c' (rowCells (leftP hs os))
theorem leftP_big (hs : List CallR) (os : List Int) (h : (rowsP0 (callsOf hs os)).length ≤ 4096) : (leftP hs os).length ≤ 4096 := by
  unfold leftP
  split
  · exact h
  · simp

set_option maxHeartbeats 16000000 in
set_option maxRecDepth 100000 in
theorem CRows_calls {base : Nat} {w : World} {A B : Option Addr} {n c m d : Nat} {hs : List CallR} {os : List Int} (hh : Hist base w A n c hs) (ho : Ints base w B m d os) (hbs : base ≤ w.heap.size) :
    Calls Try.prog 18 #[.slice A n c, .slice B m d] w (RowsPost base w hs os) := by
  have JC : Asd (∀ W, Below w.heap.size w W → Calls Try.prog 35 #[.slice A n c, .slice B m d] W (JudgePost base W hs os)) :=
    ⟨fun W hW => judge_calls (hh.below hW) (ho.below hW) (Nat.le_trans hbs hW.size)⟩
  clear hh ho
  have FS := Asd.mk (FB.start w)
  by_cases hz : judgeP hs os = (0, 0)
  · have HZ := Asd.mk hz
    have LZ := Asd.mk (leftP_ok hz)
    clear hz
    go_enter Try.func18, Try.ntmps18
    go_wp2_with fail
    refine (JC.out _ FS.out.below).mono ?_
    rintro e w1 ⟨hb1, _, hg1⟩
    obtain ⟨g, A', c', rfl, hT⟩ := hg1 HZ.out
    have F1 := Asd.mk (FS.out.next hb1)
    have hal := (Below.refl w1.heap.size w1).alloc (Nat.le_refl _) (.cells #[.int .i64 0, .int .i64 0] 35)
    have F2 := Asd.mk (F1.out.next hal)
    have T2 := Asd.mk (hT.below hal)
    have hgl := hT.lt
    obtain ⟨x0, x1, x2⟩ := fault_cells (heap_alloc_new w1 (.cells #[.int .i64 0, .int .i64 0] 35))
    have x3 : w1.heap[w1.heap.size]? = none := by simp
    have X := Asd.mk (heap_alloc_new w1 (.cells #[.int .i64 0, .int .i64 0] 35))
    clear hb1 hg1 hT hal
    go_wp2_with fail
    generalize w1.heap.size = fb at x0 x1 x2 X ⊢
    generalize (w1.alloc (.cells #[.int .i64 0, .int .i64 0] 35)) = w2 at F2 T2 x0 x1 x2 X ⊢
    have RC := Asd.mk (fun W (hW : Below w2.heap.size w2 W) => Rows_calls (T2.out.below hW) ⟨⟨#[]⟩, ⟨#[]⟩⟩)
    rw [rows_all] at RC
    unfold SpanR.enc at RC
    go_region_with (go_at_call 24; refine (RC.out _ ((Below.refl w2.heap.size w2).drew)).mono ?_; rintro e w3 ⟨A3, c3, rfl, hr3, _, hb3⟩; have B3 := Asd.mk (((Below.refl w2.heap.size w2).drew).trans hb3); have R3 := Asd.mk hr3; have F3 := Asd.mk (F2.out.next B3.out); obtain ⟨y0, y1, y2⟩ := fault_cells ((B3.out.block _ x2).trans X.out); have f0 := F3.out.f0; have f1 := F3.out.f1; have ff := F3.out.fr; have fl := F3.out.lt; clear hb3 hr3)
    all_goals
      go_wp2_with fail
      refine bodyPost_ret (v := .tuple #[.slice A3 (rowsP0 (callsOf hs os)).length c3, .agg #[.int .i64 0, .int .i64 0]]) (by simp [results, Try.results18, go_sem, f0, f1, ff, fl]) rfl ?_
      refine ⟨by repeat (first | exact F3.out.below | refine Below.drew ?_ | refine Below.setCell ?_ (by simp) _ | refine Below.alloc ?_ (by simp; omega) _), A3, c3, by rw [HZ.out, LZ.out], ?_⟩
      rw [LZ.out]
      have hI : IsT w3 w.heap.size 35 := ⟨_, _, F3.out.blk⟩
      exact (R3.out.set (p := ⟨w.heap.size, 0, none⟩) hI (by decide) hbs _).set (p := ⟨w.heap.size, 1, none⟩) (hI.set _ _) (by decide) hbs _
  · have LZ := Asd.mk (leftP_no hz)
    have HZ := Asd.mk hz
    clear hz
    go_enter Try.func18, Try.ntmps18
    go_wp2_with fail
    refine (JC.out _ FS.out.below).mono ?_
    rintro e w1 ⟨hb1, h1, _⟩
    obtain rfl := h1 HZ.out
    have F1 := Asd.mk (FS.out.next hb1)
    clear hb1 h1
    generalize hfa : (judgeP hs os).1 = fa
    generalize hfc : (judgeP hs os).2 = fc
    have FA := Asd.mk hfa
    have FC := Asd.mk hfc
    clear hfa hfc
    have F2 := Asd.mk (F1.out.next ((Below.refl w1.heap.size w1).alloc (Nat.le_refl _) (.cells #[.int .i64 fa, .int .i64 fc] 35)))
    obtain ⟨x0, x1, x2⟩ := fault_cells (heap_alloc_new w1 (.cells #[.int .i64 fa, .int .i64 fc] 35))
    have f0 := F2.out.f0
    have f1 := F2.out.f1
    have ff := F2.out.fr
    have fl := F2.out.lt
    go_wp2_with fail
    go_region
    go_wp2_with fail
    refine bodyPost_ret (v := .tuple #[.slice none 0 0, .agg #[.int .i64 fa, .int .i64 fc]]) (by simp [results, Try.results18, go_sem, f0, f1, ff, fl]) rfl ?_
    exact ⟨by repeat (first | exact F2.out.below | refine Below.drew ?_ | refine Below.setCell ?_ (by simp) _ | refine Below.alloc ?_ (by simp; omega) _), none, 0, by rw [LZ.out, FA.out, FC.out]; rfl, by rw [LZ.out]; exact Rd.none_⟩


theorem Ints.cell {base : Nat} {w : World} {b off n c : Nat} {os : List Int} (h : Ints base w (some ⟨b, off, none⟩) n c os) {i : Nat} (hi : i < n) (hl : i < os.length) : w.cell? ⟨b, off + i, none⟩ = some (.int .i64 os[i]) := by
  obtain ⟨b', off', e, _, _, hc⟩ := h.at_ hi
  injection e with e
  injection e with e1 e2
  subst e1 e2
  exact hc

set_option maxHeartbeats 16000000 in
set_option maxRecDepth 100000 in
theorem RJudge_calls {base : Nat} {w : World} {A B : Option Addr} {n c m d : Nat} {hs : List CallR} {os : List Int} (hh : Hist base w A n c hs) (ho : Ints base w B m d os) (hbs : base ≤ w.heap.size) :
    Calls Try.prog 17 #[.slice A n c, .slice B m d] w fun e w' => e = .returned (.agg #[.int .i64 (judgeP hs os).1, .int .i64 (judgeP hs os).2]) ∧ Below w.heap.size w w' := by
  have hn := hh.len
  have hm := ho.len
  have hnb := hh.big
  have hmb := ho.big
  have FC : Asd (∀ W, Below w.heap.size w W → Calls Try.prog 36 #[.slice A n c, .slice B m d] W fun e w' => e = .returned (.agg #[.int .i64 (formP hs os).1, .int .i64 (formP hs os).2]) ∧ Below W.heap.size W w') :=
    ⟨fun W hW => RForm_calls (hh.below hW) (ho.below hW) (Nat.le_trans hbs hW.size)⟩
  have PC : Asd (AllIn hs os → ∀ W, Below w.heap.size w W → Calls Try.prog 38 #[.slice A n c, .slice B m d] W (RPlayPost base W (firstI (badAt (callsOf hs os)) (callsOf hs os).length) (rowsP0 (callsOf hs os)))) :=
    ⟨fun hai W hW => RPlay_calls (hh.below hW) (ho.below hW) hai (Nat.le_trans hbs hW.size)⟩
  have H := Asd.mk hh
  have O := Asd.mk ho
  have N := Asd.mk hn
  have M := Asd.mk hm
  clear hh ho hn hm
  have FS := Asd.mk (FB.start w)
  by_cases hz : formP hs os = (0, 0)
  · have AI := formP_allin hz
    have JA := Asd.mk (fun i h => judgeP_ag (hs := hs) (os := os) (i := i) hz h)
    have JB := Asd.mk (fun h i h2 => judgeP_bad (hs := hs) (os := os) (i := i) hz h h2)
    have JO := Asd.mk (fun h h2 => judgeP_ok (hs := hs) (os := os) hz h h2)
    have PC2 := Asd.mk (PC.out AI)
    have CL := Asd.mk (callsOf_len hs os)
    have AT := Asd.mk (fun i (hi : i < os.length) => callsOf_at AI hi)
    rw [hz] at FC
    simp only at FC
    clear hz PC AI
    generalize judgeP hs os = f at *
    generalize callsOf hs os = cs at *
    go_enter Try.func17, Try.ntmps17
    go_wp2_with fail
    refine (FC.out _ FS.out.below).mono ?_
    rintro e w1 ⟨rfl, hb1⟩
    have F1 := Asd.mk (FS.out.next hb1)
    have hfb : w.heap.size < w1.heap.size := F1.out.lt
    have F2 := Asd.mk (F1.out.next ((Below.refl w1.heap.size w1).alloc (Nat.le_refl _) (.cells #[.int .i64 0, .int .i64 0] 35)))
    have X2 := Asd.mk (heap_alloc_new w1 (.cells #[.int .i64 0, .int .i64 0] 35))
    clear hb1 FC
    go_wp2_with fail
    generalize w1.heap.size = fb at hfb X2 ⊢
    generalize (w1.alloc (.cells #[.int .i64 0, .int .i64 0] 35)) = w2 at F2 X2 ⊢
    go_loopw [6] (fun s6 wr => ∃ i : Nat, s6 = .int .i64 i ∧ i ≤ m ∧ Asd (FB w wr) ∧ Asd (wr.heap[fb]? = some (.cells #[.int .i64 0, .int .i64 0] 35 (0, 0))) ∧ Asd (∀ j, j < i → agBad cs j = false)) (fun s6 _ => m - (intOf s6).toNat)
    case atStart => exact ⟨0, rfl, Nat.zero_le _, F2, X2, ⟨fun j hj => absurd hj (Nat.not_lt_zero _)⟩⟩
    case round =>
      obtain ⟨i, rfl, him, FW, XW, I⟩ := hrel
      by_cases hlt : i < m
      · obtain ⟨ob, oo, rfl, hobl, hil, _⟩ := (O.out.below FW.out.below).at_ hlt
        have hcd : i < d := Nat.lt_of_lt_of_le hlt O.out.rd.cap
        obtain ⟨a, ha, hck, ho1, hc1⟩ := AT.out i hil
        have han : a < n := by have := N.out; omega
        obtain ⟨hb, hoff, rfl, hhbl, _, _⟩ := (H.out.rd.below FW.out.below).at_enc (enc := CallR.enc) (fun _ => rfl) (by omega) han
        have hac : a < c := Nat.lt_of_lt_of_le han H.out.rd.cap
        have hag := agBad_at hck
        have HO1 := Asd.mk ho1
        have HC1 := Asd.mk hc1
        have HCK := Asd.mk hck
        have AG1 := Asd.mk hag
        clear ho1 hc1 hag
        obtain ⟨wI, h⟩ : ∃ W, W = wr := ⟨_, rfl⟩
        subst h
        go_wp2_with fail
        go_loopw [7] (fun s7 wr => ∃ q : Nat, s7 = .int .i64 q ∧ q ≤ i ∧ Asd (FB w wr) ∧ Asd (wr.heap[fb]? = some (.cells #[.int .i64 0, .int .i64 0] 35 (0, 0))) ∧ Asd (∀ t (ht : t < cs.length), t < q → 0 < hs[a].told → ¬ hs[a].told < cs[t].asked)) (fun s7 _ => i - (intOf s7).toNat)
        case atStart => exact ⟨0, rfl, Nat.zero_le _, FW, XW, ⟨fun j _ hj => absurd hj (Nat.not_lt_zero _)⟩⟩
        case round =>
          obtain ⟨q, rfl, hqi, FV, XV, J⟩ := hrel
          by_cases hlt2 : q < i
          · have hqm : q < m := by omega
            have hqd : q < d := by omega
            have hqo : q < os.length := by omega
            obtain ⟨b, hb2, hcq, ho2, hc2⟩ := AT.out q hqo
            have hbn : b < n := by have := N.out; omega
            have hbc : b < c := by have := H.out.rd.cap; omega
            have OV := O.out.below FV.out.below
            have HV := H.out.below FV.out.below
            have c0 := OV.cell hlt hil
            have k0 := OV.cell hqm hqo
            rw [HO1.out] at c0
            rw [ho2] at k0
            have hcs := HV.cells han ha
            have hds := HV.cells hbn hb2
            obtain ⟨_, _, e1, hobl', _⟩ := OV.at_ hlt
            injection e1 with e1
            injection e1 with e1 e2
            subst e1 e2
            obtain ⟨_, _, e1, hhbl', _⟩ := HV.rd.at_enc (enc := CallR.enc) (fun _ => rfl) (by omega) han
            injection e1 with e1
            injection e1 with e1 e2
            subst e1 e2
            have hbad : 0 < hs[a].told → hs[a].told < hs[b].asked → agBad cs i = true := fun h1 h2 => by
              rw [AG1.out, HC1.out, decide_eq_true h1, Bool.true_and, List.any_eq_true]
              refine ⟨cs[q], ?_, by rw [hc2]; exact decide_eq_true h2⟩
              rw [List.mem_take_iff_getElem]
              exact ⟨q, by have := HCK.out; omega, rfl⟩
            have hnx : ¬ (0 < hs[a].told ∧ hs[a].told < hs[b].asked) → ∀ t (ht : t < cs.length), t < q + 1 → 0 < hs[a].told → ¬ hs[a].told < cs[t].asked := fun h t ht htq h0 => by
              rcases Nat.lt_or_ge t q with h1 | h1
              · exact J.out t ht h1 h0
              · obtain rfl : t = q := by omega
                rw [hc2]; exact fun h3 => h ⟨h0, h3⟩
            have NX := Asd.mk hnx
            have BAD := Asd.mk hbad
            clear hbad hnx hc2 ho2 OV HV
            generalize hy : hs[a] = y at hcs BAD
            generalize hz : hs[b] = z at hds BAD
            have NX2 : Asd (¬ (0 < y.told ∧ y.told < z.asked) → ∀ t (ht : t < cs.length), t < q + 1 → 0 < y.told → cs[t].asked ≤ y.told) := ⟨fun h t ht htq h0 => by
              have h5 := NX.out (by rw [hy, hz]; exact h) t ht htq (by rw [hy]; exact h0)
              rw [hy] at h5
              omega⟩
            clear hy hz NX
            have XP : Asd (∀ W, Below wr.heap.size wr W → FB w W ∧ W.heap[fb]? = some (.cells #[.int .i64 0, .int .i64 0] 35 (0, 0))) := ⟨fun W hbx => ⟨FV.out.next hbx, (hbx.block _ (Array.getElem?_eq_some_iff.1 XV.out).1).trans XV.out⟩⟩
            have g0 := hcs 0 _ rfl
            have h0_ := hds 0 _ rfl
            have g1 := hcs 1 _ rfl
            have h1_ := hds 1 _ rfl
            have g2 := hcs 2 _ rfl
            have h2_ := hds 2 _ rfl
            have g3 := hcs 3 _ rfl
            have h3_ := hds 3 _ rfl
            have g4 := hcs 4 _ rfl
            have h4_ := hds 4 _ rfl
            have g5 := hcs 5 _ rfl
            have h5_ := hds 5 _ rfl
            have g6 := hcs 6 _ rfl
            have h6_ := hds 6 _ rfl
            have g7 := hcs 7 _ rfl
            have h7_ := hds 7 _ rfl
            have g8 := hcs 8 _ rfl
            have h8_ := hds 8 _ rfl
            have g9 := hcs 9 _ rfl
            have h9_ := hds 9 _ rfl
            rw [Nat.add_zero] at g0 h0_
            clear hcs hds
            by_cases h1 : 0 < y.told
            · by_cases h2 : y.told < z.asked
              · have Q : Asd (f = ((i : Int), 250)) := ⟨JA.out i (firstI_hit HCK.out (BAD.out h1 h2) I.out)⟩
                go_wp2_with fail
                go_region
                all_goals
                  go_wp2_with fail
                  refine (RFault_calls _ _ _).mono ?_
                  rintro e w7 ⟨rfl, hb7⟩
                  have F7 := Asd.mk (FB.next (XP.out _ (by repeat (first | exact Below.refl _ _ | refine Below.drew ?_ | refine Below.setCell ?_ (by simp) _ | refine Below.alloc ?_ (by simp) _))).1 hb7)
                  clear hb7
                  have f0 := F7.out.f0
                  have f1 := F7.out.f1
                  have ff := F7.out.fr
                  have fl := F7.out.lt
                  go_wp2_with fail
                  refine bodyPost_ret (v := .agg #[.int .i64 i, .int .i64 250]) (by simp [results, Try.results17, go_sem, f0, f1, ff, fl]) rfl ?_
                  exact ⟨by rw [Q.out], by repeat (first | exact F7.out.below | refine Below.setCell ?_ (by simp) _ | refine Below.alloc ?_ (by simp; omega) _)⟩
              · go_wp2_with fail
                go_region
                all_goals
                  go_wp2_with fail
                  go_roundw
                  case measure => simp [intOf]; omega
                  case rel => exact ⟨q + 1, by go_num, by omega, ⟨(XP.out _ (by repeat (first | exact Below.refl _ _ | refine Below.drew ?_ | refine Below.setCell ?_ (by simp) _ | refine Below.alloc ?_ (by simp) _))).1⟩, ⟨(XP.out _ (by repeat (first | exact Below.refl _ _ | refine Below.drew ?_ | refine Below.setCell ?_ (by simp) _ | refine Below.alloc ?_ (by simp) _))).2⟩, ⟨fun t ht h5 h6 => by have h7 := NX2.out (by omega) t ht h5 h6; omega⟩⟩
            · go_wp2_with fail
              go_region
              all_goals
                go_wp2_with fail
                go_roundw
                case measure => simp [intOf]; omega
                case rel => exact ⟨q + 1, by go_num, by omega, ⟨(XP.out _ (by repeat (first | exact Below.refl _ _ | refine Below.drew ?_ | refine Below.setCell ?_ (by simp) _ | refine Below.alloc ?_ (by simp) _))).1⟩, ⟨(XP.out _ (by repeat (first | exact Below.refl _ _ | refine Below.drew ?_ | refine Below.setCell ?_ (by simp) _ | refine Below.alloc ?_ (by simp) _))).2⟩, ⟨fun t ht h5 h6 => by have h7 := NX2.out (by omega) t ht h5 h6; omega⟩⟩
          · obtain rfl : q = i := by omega
            have hno : agBad cs q = false := by
              rw [AG1.out, HC1.out]
              cases hp : decide (0 < hs[a].told) with
              | false => rfl
              | true =>
                rw [Bool.true_and, List.any_eq_false]
                intro z hz
                rw [List.mem_take_iff_getElem] at hz
                obtain ⟨t, ht, rfl⟩ := hz
                have := J.out t (by omega) (by omega) (of_decide_eq_true hp)
                simpa using this
            have NO := Asd.mk hno
            clear hno
            go_wp2_with fail
            go_roundw
            case measure => simp [intOf]; omega
            case rel => exact ⟨q + 1, by go_num, by omega, FV, XV, ⟨fun j hj => by
              rcases Nat.lt_or_ge j q with h1 | h1
              · exact I.out j h1
              · obtain rfl : j = q := by omega
                exact NO.out⟩⟩
      · obtain rfl : i = m := by omega
        have HA : Asd (firstI (agBad cs) cs.length = none) := ⟨firstI_none.2 (by rw [CL.out, M.out]; exact I.out)⟩
        go_wp2_with fail
        refine (PC2.out _ FW.out.below).mono ?_
        rintro e w4 ⟨hb4, hs4, hn4⟩
        have F4 := Asd.mk (FW.out.next hb4)
        have hX4 := (hb4.block fb (Array.getElem?_eq_some_iff.1 XW.out).1).trans XW.out
        obtain ⟨x0, x1, x2⟩ := fault_cells hX4
        have x3 : ∀ i, w4.frozen? ⟨fb, i, none⟩ = false := fun i => by simp [World.frozen?, hX4]
        have hne1 : ¬ w.heap.size = fb := by omega
        have hne2 : ¬ fb = w.heap.size := by omega
        clear hb4 hX4
        have f0 := F4.out.f0
        have f1 := F4.out.f1
        have ff := F4.out.fr
        have fl := F4.out.lt
        cases hp : firstI (badAt cs) cs.length with
        | some i =>
          have Q := Asd.mk (JB.out HA.out i hp)
          obtain rfl := hs4 i hp
          clear hs4 hn4 hp
          go_wp2_with fail
          refine bodyPost_ret (v := .agg #[.int .i64 i, .int .i64 251]) (by simp [results, Try.results17, go_sem, f0, f1, ff, fl, x0, x1, x2, x3, hne1, hne2]) rfl ?_
          exact ⟨by rw [Q.out], by repeat (first | exact F4.out.below | refine Below.drew ?_ | refine Below.setCell ?_ (by first | omega | (simp; done) | (simp; omega)) _ | refine Below.alloc ?_ (by simp; omega) _)⟩
        | none =>
          have Q := Asd.mk (JO.out HA.out hp)
          obtain ⟨g, A', c', rfl, _⟩ := hn4 hp
          clear hs4 hn4 hp
          go_wp2_with fail
          refine bodyPost_ret (v := .agg #[.int .i64 0, .int .i64 0]) (by simp [results, Try.results17, go_sem, f0, f1, ff, fl, x0, x1, x2, x3, hne1, hne2]) rfl ?_
          exact ⟨by rw [Q.out], by repeat (first | exact F4.out.below | refine Below.drew ?_ | refine Below.setCell ?_ (by first | omega | (simp; done) | (simp; omega)) _ | refine Below.alloc ?_ (by simp; omega) _)⟩
  · have hc := formP_code hz
    have J := Asd.mk (judgeP_form hz)
    generalize formP hs os = g at *
    obtain ⟨fa, fc⟩ := g
    simp only at FC hc
    have hcb : (fc == 0) = false := by simpa using hc
    have hcb2 : (fc != 0) = true := by simp [bne, hcb]
    clear PC hz
    go_enter Try.func17, Try.ntmps17
    go_wp2_with fail
    refine (FC.out _ FS.out.below).mono ?_
    rintro e w1 ⟨rfl, hb1⟩
    have F1 := Asd.mk (FS.out.next hb1)
    clear hb1
    have F2 := Asd.mk (F1.out.next ((Below.refl w1.heap.size w1).alloc (Nat.le_refl _) (.cells #[.int .i64 fa, .int .i64 fc] 35)))
    obtain ⟨x0, x1, x2⟩ := fault_cells (heap_alloc_new w1 (.cells #[.int .i64 fa, .int .i64 fc] 35))
    have f0 := F2.out.f0
    have f1 := F2.out.f1
    have ff := F2.out.fr
    have fl := F2.out.lt
    go_wp2_with fail
    refine bodyPost_ret (v := .agg #[.int .i64 fa, .int .i64 fc]) (by simp [results, Try.results17, go_sem, f0, f1, ff, fl]) rfl ?_
    exact ⟨by rw [J.out], by repeat (first | exact F2.out.below | refine Below.setCell ?_ (by simp) _ | refine Below.alloc ?_ (by simp; omega) _)⟩

end Go.Proofs.Ytlhjfblpinpjiaa

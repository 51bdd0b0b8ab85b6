/- What is wrong with an order as such, as the document has it; against time. -/
import Derived.Test.YtlhjfblpinpjiaaC4
import Derived.Deep.OwnRows
set_option linter.unusedVariables false
set_option linter.unusedSimpArgs false
namespace Go.Proofs.Ytlhjfblpinpjiaa
open Go.RowKit Go.Maps

theorem FB.set {w wr : World} (h : FB w wr) {ib j : Nat} (hj : w.heap.size < ib) (u : Value) : FB w (wr.setCell ⟨ib, j, none⟩ u) :=
  ⟨Below.setCell h.below (Nat.le_of_lt hj) _, by
    have : (wr.setCell ⟨ib, j, none⟩ u).heap[w.heap.size]? = wr.heap[w.heap.size]? := by simp [World.setCell, Array.getElem?_modify]; omega
    rw [this]; exact h.blk⟩
/-- A row of marks. -/
def Flags (w : World) (ib n : Nat) (l : List Int) : Prop := w.rowIs ib 4 n (fun j => .bool (decide ((j : Int) ∈ l)))
theorem elt_bool : Elt Try.prog 103 4 1 1 := Elt.mk' Try.underlying103 (z := .bool false) (by kernel_rfl) rfl (by omega)
theorem make_bools (n : Nat) (hn : n ≤ 200) (w : World) : (Instr.makeSlice 103 (.int .i64 (n : Int)) (.int .i64 (n : Int))).run Try.prog w = .ok (.slice (some ⟨w.heap.size, 0, none⟩) n n) (w.alloc (.cells (madeCells #[.bool false] n) 4)) := by
  have hi : (Try.prog.info? 4).map (fun i => (i.zero, i.size, i.bytes)) = some (some (.bool false), 1, 1) := by kernel_rfl
  cases h : Try.prog.info? 4 with
  | none => rw [h] at hi; cases hi
  | some i =>
    rw [h] at hi
    simp only [Option.map_some, Option.some.injEq, Prod.mk.injEq] at hi
    obtain ⟨h1, h2, h3⟩ := hi
    have hr := run_make (P := Try.prog) w 103 4 i (.bool false) Try.underlying103 h h1 .i64 .i64 (n : Int) (n : Int) (by omega) (by omega) (by rw [h3]; omega) (by omega)
    rw [h2, show (Value.bool false).cells = #[.bool false] from rfl] at hr
    simpa using hr

set_option maxHeartbeats 16000000 in
set_option maxRecDepth 100000 in
theorem RForm_calls {base : Nat} {w : World} {A B : Option Addr} {n c m d : Nat} {hs : List CallR} {os : List Int} (hh : Hist base w A n c hs) (ho : Ints base w B m d os) (hbs : base ≤ w.heap.size) :
    Calls Try.prog 36 #[.slice A n c, .slice B m d] w fun e w' => e = .returned (.agg #[.int .i64 (formP hs os).1, .int .i64 (formP hs os).2]) ∧ Below w.heap.size w w' := by
  have hn := hh.len
  have hm := ho.len
  have hnb := hh.big
  have hmb := ho.big
  generalize hf : formP hs os = f
  have P := Asd.mk hf
  have H := Asd.mk hh
  have O := Asd.mk ho
  have N := Asd.mk hn
  have M := Asd.mk hm
  clear hh ho hf
  by_cases hl : 200 < n
  · have hl' : (200 : Int) < (n : Int) := by omega
    have Q := Asd.mk (P.out.symm.trans (formP_long (by omega)))
    clear hn hm hl
    go_enter Try.func36, Try.ntmps36
    go_wp2_with fail
    refine (RFault_calls _ _ _).mono ?_
    rintro e w7 ⟨rfl, hb7⟩
    have F7 := Asd.mk ((FB.start w).next hb7)
    clear hb7
    have f0 := F7.out.f0
    have f1 := F7.out.f1
    have ff := F7.out.fr
    have fl := F7.out.lt
    go_wp2_with fail
    refine bodyPost_ret (v := .agg #[.int .i64 0, .int .i64 2]) (by simp [results, Try.results36, go_sem, f0, f1, ff, fl]) rfl ?_
    exact ⟨by rw [Q.out], by repeat (first | exact F7.out.below | refine Below.setCell ?_ (by simp) _ | refine Below.alloc ?_ (by simp; omega) _)⟩
  · have hl' : ¬ (200 : Int) < (n : Int) := by omega
    have hl2 : ¬ 200 < hs.length := by omega
    have hl3 : n ≤ 200 := by omega
    have L2 := Asd.mk hl2
    have F0 := Asd.mk (FB.start w)
    clear hl2 hn hm hl
    have hmk := make_bools n hl3
    go_enter Try.func36, Try.ntmps36
    go_wp2_with fail
    generalize (w.alloc (.cells #[.int .i64 0, .int .i64 0] 35)) = w1 at F0 ⊢
    go_loopw [5] (fun s5 wr => ∃ k : Nat, s5 = .int .i64 k ∧ k ≤ n ∧ Asd (FB w wr) ∧ Asd (∀ j (hj : j < hs.length), j < k → (!hs[j].ok) = false)) (fun s5 _ => n - (intOf s5).toNat)
    case atStart => exact ⟨0, rfl, Nat.zero_le _, F0, ⟨fun j _ hj => absurd hj (Nat.not_lt_zero _)⟩⟩
    case round =>
      obtain ⟨k, rfl, hkn, FW, I⟩ := hrel
      by_cases hlt : k < n
      · obtain ⟨b, off, rfl, hbl, hil, hcs⟩ := (H.out.rd.below FW.out.below).at_enc (enc := CallR.enc) (fun _ => rfl) (by omega) hlt
        have hcc : k < c := Nat.lt_of_lt_of_le hlt H.out.rd.cap
        have hmay := RMay2_calls ((H.out.below FW.out.below).ins _ (List.getElem_mem hil))
        have hnx : hs[k].ok = true → ∀ j (hj : j < hs.length), j < k + 1 → (!hs[j].ok) = false := fun e j hj hjk => by
          rcases Nat.lt_or_ge j k with h1 | h1
          · exact I.out j hj h1
          · obtain rfl : j = k := by omega
            rw [e]; rfl
        have hbad : hs[k].ok = false → f = (((k : Nat) : Int), 80) := fun e => by
          have hk : (!hs[k].ok) = true := by rw [e]; rfl
          rw [← P.out, formP_may L2.out (List.any_eq_true.2 ⟨_, List.getElem_mem hil, hk⟩), fidx_hit _ _ k hil hk (fun j hj hjk => I.out j hj hjk)]
        generalize hs[k] = y at hcs hmay hnx hbad
        have c0 := hcs 0 _ rfl
        have c1 := hcs 1 _ rfl
        have c2 := hcs 2 _ rfl
        have c3 := hcs 3 _ rfl
        have c4 := hcs 4 _ rfl
        have c5 := hcs 5 _ rfl
        have c6 := hcs 6 _ rfl
        have c7 := hcs 7 _ rfl
        have c8 := hcs 8 _ rfl
        have c9 := hcs 9 _ rfl
        rw [Nat.add_zero] at c0
        clear hcs
        unfold CallR.enc at hmay
        cases hq : y.ok with
        | true =>
          rw [hq] at hmay
          have Q := Asd.mk (hnx hq)
          have MC := Asd.mk hmay
          clear hq hnx hbad hmay
          go_wp2_with fail
          refine MC.out.mono ?_
          rintro e w5 ⟨rfl, hb5⟩
          go_wp2_with fail
          go_roundw
          case measure => simp [intOf]; omega
          case rel => exact ⟨k + 1, by go_num, by omega, ⟨FW.out.next hb5⟩, Q⟩
        | false =>
          rw [hq] at hmay
          have Q := Asd.mk (hbad hq)
          have MC := Asd.mk hmay
          clear hq hnx hbad hmay
          go_wp2_with fail
          refine MC.out.mono ?_
          rintro e w5 ⟨rfl, hb5⟩
          have FV := Asd.mk (FW.out.next hb5)
          clear hb5
          go_wp2_with fail
          refine (RFault_calls _ _ _).mono ?_
          rintro e w7 ⟨rfl, hb7⟩
          have F7 := Asd.mk (FV.out.next hb7)
          clear hb7
          have f0 := F7.out.f0
          have f1 := F7.out.f1
          have ff := F7.out.fr
          have fl := F7.out.lt
          go_wp2_with fail
          refine bodyPost_ret (v := .agg #[.int .i64 k, .int .i64 80]) (by simp [results, Try.results36, go_sem, f0, f1, ff, fl]) rfl ?_
          exact ⟨by rw [Q.out], by repeat (first | exact F7.out.below | refine Below.setCell ?_ (by simp) _ | refine Below.alloc ?_ (by simp; omega) _)⟩
      · obtain rfl : k = n := by omega
        have ANY : Asd (hs.any (fun x => !x.ok) = false) := ⟨by
          rw [List.any_eq_false]
          intro x hx
          obtain ⟨t, ht, rfl⟩ := List.getElem_of_mem hx
          rw [I.out t ht (by have := N.out; omega)]
          simp⟩
        obtain ⟨wI, h⟩ : ∃ W, W = wr := ⟨_, rfl⟩
        subst h
        have hib : w.heap.size < wI.heap.size := FW.out.lt
        have FL : Asd (Flags (wI.alloc (.cells (madeCells #[.bool false] k) 4)) wI.heap.size k []) := ⟨World.rowIs_made _ _ _ _⟩
        have F2 := Asd.mk (FW.out.next ((Below.refl wI.heap.size wI).alloc (Nat.le_refl _) (.cells (madeCells #[.bool false] k) 4)))
        clear I
        go_wp2_with fail
        generalize wI.heap.size = ib at FL hib ⊢
        generalize (wI.alloc (.cells (madeCells #[.bool false] k) 4)) = w2 at FL F2 ⊢
        go_loopw [7] (fun s7 wr => ∃ i : Nat, s7 = .int .i64 i ∧ i ≤ m ∧ Asd (FB w wr) ∧ Asd (Flags wr ib k (os.take i)) ∧ Asd (∀ j, j < i → ordBad hs.length os j = false)) (fun s7 _ => m - (intOf s7).toNat)
        case atStart => exact ⟨0, rfl, Nat.zero_le _, F2, FL, ⟨fun j hj => absurd hj (Nat.not_lt_zero _)⟩⟩
        case round =>
          obtain ⟨i, rfl, him, FW, MW, I⟩ := hrel
          by_cases hlt : i < m
          · obtain ⟨b, off, rfl, hbl, hil, c0⟩ := (O.out.below FW.out.below).at_ hlt
            have hcd : i < d := Nat.lt_of_lt_of_le hlt O.out.rd.cap
            have hob := ordBad_at (n := hs.length) hil
            have hbad : ordBad hs.length os i = true → f = (((i : Nat) : Int), 4) := fun e => P.out.symm.trans (formP_ord L2.out ANY.out (firstI_hit (by have := M.out; omega) e I.out))
            have hnx : ordBad hs.length os i = false → ∀ j, j < i + 1 → ordBad hs.length os j = false := fun e j hj => by
              rcases Nat.lt_or_ge j i with h1 | h1
              · exact I.out j h1
              · obtain rfl : j = i := by omega
                exact e
            have htk : os.take (i + 1) = os.take i ++ [os[i]] := List.take_succ_eq_append_getElem hil
            rw [hob] at hbad hnx
            generalize os[i] = v at c0 hbad hnx htk
            have BAD := Asd.mk hbad
            have NX := Asd.mk hnx
            have TK := Asd.mk htk
            clear hob hbad hnx htk
            by_cases h1 : v < 0
            · have Q := Asd.mk (BAD.out (by rw [N.out]; simp [h1]))
              go_wp2_with fail
              refine (RFault_calls _ _ _).mono ?_
              rintro e w7 ⟨rfl, hb7⟩
              have F7 := Asd.mk (FW.out.next hb7)
              clear hb7
              have f0 := F7.out.f0
              have f1 := F7.out.f1
              have ff := F7.out.fr
              have fl := F7.out.lt
              go_wp2_with fail
              refine bodyPost_ret (v := .agg #[.int .i64 i, .int .i64 4]) (by simp [results, Try.results36, go_sem, f0, f1, ff, fl]) rfl ?_
              exact ⟨by rw [Q.out], by repeat (first | exact F7.out.below | refine Below.setCell ?_ (by simp) _ | refine Below.alloc ?_ (by simp; omega) _)⟩
            · by_cases h2 : (k : Int) ≤ v
              · have Q := Asd.mk (BAD.out (by rw [N.out]; simp [h2]))
                go_wp2_with fail
                refine (RFault_calls _ _ _).mono ?_
                rintro e w7 ⟨rfl, hb7⟩
                have F7 := Asd.mk (FW.out.next hb7)
                clear hb7
                have f0 := F7.out.f0
                have f1 := F7.out.f1
                have ff := F7.out.fr
                have fl := F7.out.lt
                go_wp2_with fail
                refine bodyPost_ret (v := .agg #[.int .i64 i, .int .i64 4]) (by simp [results, Try.results36, go_sem, f0, f1, ff, fl]) rfl ?_
                exact ⟨by rw [Q.out], by repeat (first | exact F7.out.below | refine Below.setCell ?_ (by simp) _ | refine Below.alloc ?_ (by simp; omega) _)⟩
              · obtain ⟨v, rfl⟩ : ∃ u : Nat, v = (u : Int) := ⟨v.toNat, by omega⟩
                have hvk : v < k := by omega
                have LK := World.rowIs.cell MW.out hvk
                have LF := World.rowIs.frozen MW.out v
                cases hmem : decide ((v : Int) ∈ os.take i) with
                | true =>
                  rw [hmem] at LK
                  have Q := Asd.mk (BAD.out (by rw [hmem]; simp))
                  clear hmem
                  go_wp2_with fail
                  refine (RFault_calls _ _ _).mono ?_
                  rintro e w7 ⟨rfl, hb7⟩
                  have F7 := Asd.mk (FW.out.next hb7)
                  clear hb7
                  have f0 := F7.out.f0
                  have f1 := F7.out.f1
                  have ff := F7.out.fr
                  have fl := F7.out.lt
                  go_wp2_with fail
                  refine bodyPost_ret (v := .agg #[.int .i64 i, .int .i64 4]) (by simp [results, Try.results36, go_sem, f0, f1, ff, fl]) rfl ?_
                  exact ⟨by rw [Q.out], by repeat (first | exact F7.out.below | refine Below.setCell ?_ (by simp) _ | refine Below.alloc ?_ (by simp; omega) _)⟩
                | false =>
                  rw [hmem] at LK
                  have Q := Asd.mk (NX.out (by rw [hmem, N.out]; simp; omega))
                  have F5 := Asd.mk (FW.out.set (j := v) hib (.bool true))
                  have M5 : Asd (Flags (wr.setCell ⟨ib, v, none⟩ (.bool true)) ib k (os.take (i + 1))) := ⟨World.rowIs.congr (World.rowIs.set MW.out v (.bool true)) (fun j hj => by
                    rw [TK.out]
                    by_cases e : j = v
                    · subst e; simp
                    · rw [if_neg e]; have e2 : ¬ (j : Int) = (v : Int) := by omega
                      simp [e2])⟩
                  clear hmem
                  go_wp2_with fail
                  go_roundw
                  case measure => simp [intOf]; omega
                  case rel => exact ⟨i + 1, by go_num, by omega, F5, M5, Q⟩
          · obtain rfl : i = m := by omega
            have hall : os.take i = os := List.take_of_length_le (by have := M.out; omega)
            rw [hall] at MW
            have OK3 : Asd (firstI (ordBad hs.length os) os.length = none) := ⟨firstI_none.2 (by rw [M.out]; exact I.out)⟩
            clear hall I
            obtain ⟨wI, h⟩ : ∃ W, W = wr := ⟨_, rfl⟩
            subst h
            go_wp2_with fail
            go_loopw [8] (fun s8 wr => ∃ q : Nat, s8 = .int .i64 q ∧ q ≤ k ∧ Asd (FB w wr) ∧ Asd (Flags wr ib k os) ∧ Asd (∀ j, j < q → leftOut hs os j = false)) (fun s8 _ => k - (intOf s8).toNat)
            case atStart => exact ⟨0, rfl, Nat.zero_le _, FW, MW, ⟨fun j hj => absurd hj (Nat.not_lt_zero _)⟩⟩
            case round =>
              obtain ⟨q, rfl, hqn, FV, MV, J⟩ := hrel
              by_cases hlt2 : q < k
              · obtain ⟨b, off, rfl, hbl, hil, hcs⟩ := (H.out.rd.below FV.out.below).at_enc (enc := CallR.enc) (fun _ => rfl) (by omega) hlt2
                have hcc : q < c := Nat.lt_of_lt_of_le hlt2 H.out.rd.cap
                have hlo := leftOut_at (os := os) hil
                have hbad : leftOut hs os q = true → f = (((q : Nat) : Int), 4) := fun e => P.out.symm.trans (formP_out L2.out ANY.out OK3.out (firstI_hit (by have := N.out; omega) e J.out))
                have hnx : leftOut hs os q = false → ∀ j, j < q + 1 → leftOut hs os j = false := fun e j hj => by
                  rcases Nat.lt_or_ge j q with h1 | h1
                  · exact J.out j h1
                  · obtain rfl : j = q := by omega
                    exact e
                rw [hlo] at hbad hnx
                generalize hs[q] = y at hcs hbad hnx
                have BAD := Asd.mk hbad
                have NX := Asd.mk hnx
                clear hlo hbad hnx
                have c1 := hcs 1 _ rfl
                clear hcs
                have LK := World.rowIs.cell MV.out hlt2
                by_cases h1 : 0 < y.told
                · cases hmem : decide ((q : Int) ∈ os) with
                  | true =>
                    rw [hmem] at LK
                    have Q := Asd.mk (NX.out (by rw [hmem]; simp))
                    clear hmem
                    go_wp2_with fail
                    go_roundw
                    case measure => simp [intOf]; omega
                    case rel => exact ⟨q + 1, by go_num, by omega, FV, MV, Q⟩
                  | false =>
                    rw [hmem] at LK
                    have Q := Asd.mk (BAD.out (by rw [hmem]; simp [h1]))
                    clear hmem
                    go_wp2_with fail
                    refine (RFault_calls _ _ _).mono ?_
                    rintro e w7 ⟨rfl, hb7⟩
                    have F7 := Asd.mk (FV.out.next hb7)
                    clear hb7
                    have f0 := F7.out.f0
                    have f1 := F7.out.f1
                    have ff := F7.out.fr
                    have fl := F7.out.lt
                    go_wp2_with fail
                    refine bodyPost_ret (v := .agg #[.int .i64 q, .int .i64 4]) (by simp [results, Try.results36, go_sem, f0, f1, ff, fl]) rfl ?_
                    exact ⟨by rw [Q.out], by repeat (first | exact F7.out.below | refine Below.setCell ?_ (by simp) _ | refine Below.alloc ?_ (by simp; omega) _)⟩
                · have Q := Asd.mk (NX.out (by simp [h1]))
                  go_wp2_with fail
                  go_roundw
                  case measure => simp [intOf]; omega
                  case rel => exact ⟨q + 1, by go_num, by omega, FV, MV, Q⟩
              · obtain rfl : q = k := by omega
                have Q := Asd.mk (P.out.symm.trans (formP_ok L2.out ANY.out OK3.out (firstI_none.2 (by rw [N.out]; exact J.out))))
                have f0 := FV.out.f0
                have f1 := FV.out.f1
                have ff := FV.out.fr
                have fl := FV.out.lt
                go_wp2_with fail
                refine bodyPost_ret (v := .agg #[.int .i64 0, .int .i64 0]) (by simp [results, Try.results36, go_sem, f0, f1, ff, fl]) rfl ?_
                exact ⟨by rw [Q.out], by repeat (first | exact FV.out.below | refine Below.setCell ?_ (by simp) _ | refine Below.alloc ?_ (by simp; omega) _)⟩

instance : Inhabited CallR := ⟨⟨0, 0, 0, 0, none, 0, 0, 0, 0, none, 0, 0, 0, 0, [], [], []⟩⟩
/-- The calls of an order. -/
def callsOf (hs : List CallR) (os : List Int) : List CallR := os.map (fun o => hs.getD o.toNat default)
def AllIn (hs : List CallR) (os : List Int) : Prop := ∀ o ∈ os, 0 ≤ o ∧ o < hs.length
theorem callsOf_len (hs : List CallR) (os : List Int) : (callsOf hs os).length = os.length := by simp [callsOf]
theorem callsOf_at {hs : List CallR} {os : List Int} (h : AllIn hs os) {i : Nat} (hi : i < os.length) : ∃ (j : Nat) (hj : j < hs.length) (hc : i < (callsOf hs os).length), os[i] = (j : Int) ∧ (callsOf hs os)[i] = hs[j] := by
  obtain ⟨h0, h1⟩ := h _ (List.getElem_mem hi)
  refine ⟨os[i].toNat, by omega, by simpa [callsOf] using hi, by omega, ?_⟩
  simp [callsOf, List.getD_eq_getElem?_getD]
  rw [List.getElem?_eq_getElem (by omega)]
  rfl
/-- The greatest time at which one of these was asked. -/
def latestP (l : List CallR) : Int := l.foldl (fun a z => max a z.asked) 0
theorem latestP_snoc (l : List CallR) (z : CallR) : latestP (l ++ [z]) = max (latestP l) z.asked := by simp [latestP]
theorem foldl_max_lt (l : List CallR) (a t : Int) : t < l.foldl (fun a z => max a z.asked) a ↔ t < a ∨ ∃ z ∈ l, t < z.asked := by
  induction l generalizing a with
  | nil => simp
  | cons x l ih => 
    have h1 : t < max a x.asked ↔ t < a ∨ t < x.asked := by omega
    simp only [List.foldl_cons, ih, List.mem_cons, exists_eq_or_imp]
    rw [h1, or_assoc]
theorem latestP_lt {l : List CallR} {t : Int} (h : 0 < t) : decide (t < latestP l) = l.any (fun z => decide (t < z.asked)) := by
  rw [Bool.eq_iff_iff]
  simp only [decide_eq_true_eq, List.any_eq_true]
  unfold latestP
  rw [foldl_max_lt]
  constructor
  · rintro (h1 | h1)
    · omega
    · exact h1
  · exact .inr
/-- The i-th was told before one ahead of it was asked. -/
def agBad (cs : List CallR) (i : Nat) : Bool := match cs[i]? with
  | some y => decide (0 < y.told) && (cs.take i).any (fun z => decide (y.told < z.asked))
  | none => false
theorem agBad_at {cs : List CallR} {i : Nat} (hi : i < cs.length) : agBad cs i = (decide (0 < cs[i].told) && (cs.take i).any (fun z => decide (cs[i].told < z.asked))) := by
  unfold agBad
  rw [List.getElem?_eq_getElem hi]
def againstP (cs : List CallR) : Int := match firstI (agBad cs) cs.length with
  | some i => (i : Int)
  | none => -1

set_option maxHeartbeats 16000000 in
set_option maxRecDepth 100000 in
theorem against_calls {base : Nat} {w : World} {A B : Option Addr} {n c m d : Nat} {hs : List CallR} {os : List Int} (hh : Hist base w A n c hs) (ho : Ints base w B m d os) (hai : AllIn hs os) :
    Calls Try.prog 30 #[.slice A n c, .slice B m d] w fun e w' => e = .returned (.int .i64 (againstP (callsOf hs os))) ∧ Below w.heap.size w w' := by
  have hn := hh.len
  have hm := ho.len
  have hnb := hh.big
  have hmb := ho.big
  have hcl := callsOf_len hs os
  have hat := fun i (hi : i < os.length) => callsOf_at hai hi
  generalize callsOf hs os = cs at *
  generalize hf : againstP cs = f
  have P := Asd.mk hf
  have H := Asd.mk hh
  have O := Asd.mk ho
  have N := Asd.mk hn
  have M := Asd.mk hm
  have CL := Asd.mk hcl
  have AT := Asd.mk hat
  clear hh ho hf hn hm hcl hat hai
  go_enter Try.func30, Try.ntmps30
  go_wp2_with fail
  go_loopw [5, 10] (fun s5 s10 wr => ∃ k : Nat, s10 = .int .i64 k ∧ s5 = .int .i64 (latestP (cs.take k)) ∧ k ≤ m ∧ Asd (Below w.heap.size w wr) ∧ Asd (∀ j, j < k → agBad cs j = false)) (fun _ s10 _ => m - (intOf s10).toNat)
  case atStart => exact ⟨0, rfl, rfl, Nat.zero_le _, ⟨by repeat (first | exact Below.refl _ _ | refine Below.alloc ?_ (by simp) _)⟩, ⟨fun j hj => absurd hj (Nat.not_lt_zero _)⟩⟩
  case round =>
    obtain ⟨k, rfl, rfl, hkm, BW, I⟩ := hrel
    by_cases hlt : k < m
    · obtain ⟨b, off, rfl, hbl, hil, c0⟩ := (O.out.below BW.out).at_ hlt
      have hcd : k < d := Nat.lt_of_lt_of_le hlt O.out.rd.cap
      obtain ⟨j, hj, hck, ho1, hc1⟩ := AT.out k hil
      have hjn : j < n := by have := N.out; omega
      obtain ⟨b', off', rfl, hbl', hil', hcs⟩ := (H.out.rd.below BW.out).at_enc (enc := CallR.enc) (fun _ => rfl) (by omega) hjn
      have hjc : j < c := Nat.lt_of_lt_of_le hjn H.out.rd.cap
      have hag := agBad_at hck
      have hbad : agBad cs k = true → f = (k : Int) := fun e => by
        rw [← P.out]; unfold againstP; rw [firstI_hit hck e I.out]
      have hnx : agBad cs k = false → ∀ j, j < k + 1 → agBad cs j = false := fun e j hj => by
        rcases Nat.lt_or_ge j k with h1 | h1
        · exact I.out j h1
        · obtain rfl : j = k := by omega
          exact e
      have hsn : latestP (cs.take (k + 1)) = max (latestP (cs.take k)) cs[k].asked := by rw [List.take_succ_eq_append_getElem hck, latestP_snoc]
      rw [hag, hc1] at hbad hnx
      rw [hc1] at hsn
      rw [ho1] at c0
      generalize hs[j] = y at hcs hbad hnx hsn
      have BAD := Asd.mk hbad
      have NX := Asd.mk hnx
      have SN := Asd.mk hsn
      clear hag hbad hnx hc1 ho1 hsn
      have e0 := hcs 0 _ rfl
      have e1 := hcs 1 _ rfl
      rw [Nat.add_zero] at e0
      clear hcs
      by_cases h1 : 0 < y.told
      · have hla := latestP_lt (l := cs.take k) h1
        have LA := Asd.mk hla
        clear hla
        by_cases h2 : y.told < latestP (cs.take k)
        · have Q := Asd.mk (BAD.out (by rw [← LA.out]; simp [h1, h2]))
          generalize latestP (cs.take k) = la at *
          go_wp2_with fail
          go_ret
          exact ⟨by rw [Q.out]; rfl, BW.out⟩
        · have Q := Asd.mk (NX.out (by rw [← LA.out]; simp [h2]))
          generalize latestP (cs.take k) = la at *
          go_wp2_with fail
          go_roundw
          case measure => simp [intOf]; omega
          case rel => exact ⟨k + 1, by go_num, by rw [SN.out]; congr 1; split <;> omega, by omega, BW, Q⟩
      · have Q := Asd.mk (NX.out (by simp [h1]))
        generalize latestP (cs.take k) = la at *
        go_wp2_with fail
        go_roundw
        case measure => simp [intOf]; omega
        case rel => exact ⟨k + 1, by go_num, by rw [SN.out]; congr 1; split <;> omega, by omega, BW, Q⟩
    · obtain rfl : k = m := by omega
      have Q : Asd (f = -1) := ⟨by rw [← P.out]; unfold againstP; rw [firstI_none.2 (by rw [CL.out, M.out]; exact I.out)]⟩
      go_wp2_with fail
      go_ret
      exact ⟨by rw [Q.out]; rfl, BW.out⟩

end Go.Proofs.Ytlhjfblpinpjiaa

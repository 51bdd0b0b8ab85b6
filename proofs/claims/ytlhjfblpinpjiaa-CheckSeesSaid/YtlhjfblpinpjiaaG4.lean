/- What was built one by one is judged right: plain. CheckTrue: the walk. -/
import Derived.Test.YtlhjfblpinpjiaaG2
import Derived.Test.YtlhjfblpinpjiaaFc
set_option linter.unusedVariables false
set_option linter.unusedSimpArgs false
namespace Go.Proofs.Ytlhjfblpinpjiaa
open Go.RowKit

/-- A history whose i-th call was done at the time 10 i + 100. -/
structure FairAt (cs : List CallR) (i : Nat) (y : CallR) : Prop where
  req : reqOk y.cl y.sq y.ops = true
  a0 : 1 ≤ y.asked
  a1 : y.asked ≤ 10 * (i : Int) + 100
  t : y.told = 0 ∨ (10 * (i : Int) + 100 ≤ y.told ∧ y.told ≤ 10 * (i : Int) + 300)
  said : 0 < y.told → y.told_ (cs.take i) = true
structure Fair (cs : List CallR) : Prop where
  len : cs.length ≤ 40
  at_ : ∀ (i : Nat) (hi : i < cs.length), FairAt cs i cs[i]
theorem Built.fair {cs : List CallR} (h : Built cs) : Fair cs :=
  ⟨h.len, fun i hi => by
    have b := h.at_ i hi
    exact ⟨b.req, by have := b.a0; omega, b.a1, by have := b.t; omega, b.said⟩⟩
theorem Fair.ok {cs : List CallR} (h : Fair cs) {i : Nat} (hi : i < cs.length) : cs[i].ok = true := by
  have b := h.at_ i hi
  have hl := h.len
  have h0 := b.a0
  have h1 := b.a1
  have h2 := b.t
  unfold CallR.ok callOk
  rw [b.req]
  simp
  omega
theorem Fair.oks {cs : List CallR} (h : Fair cs) : cs.any (fun x => !x.ok) = false := by
  rw [List.any_eq_false]
  intro x hx
  obtain ⟨i, hi, rfl⟩ := List.getElem_of_mem hx
  rw [h.ok hi]
  simp
theorem mem_rangeI {n : Nat} {v : Int} : v ∈ rangeI n ↔ ∃ j : Nat, j < n ∧ v = (j : Int) := by
  unfold rangeI
  rw [List.mem_map]
  exact ⟨fun ⟨j, hj, e⟩ => ⟨j, by simpa using hj, e.symm⟩, fun ⟨j, hj, e⟩ => ⟨j, by simpa using hj, e.symm⟩⟩
theorem rangeI_get {n i : Nat} (hi : i < (rangeI n).length) : (rangeI n)[i] = (i : Int) := by
  simp [rangeI]
theorem rangeI_take (n i : Nat) (h : i ≤ n) : (rangeI n).take i = rangeI i := by
  unfold rangeI
  rw [← List.map_take, List.take_range, Nat.min_eq_left h]
theorem callsOf_range {hs : List CallR} {n : Nat} (h : n ≤ hs.length) : callsOf hs (rangeI n) = hs.take n := by
  unfold callsOf
  apply List.ext_getElem
  · simp [rangeI_len, Nat.min_eq_left h]
  · intro i h1 h2
    rw [List.getElem_map, List.getElem_take, rangeI_get, List.getD_eq_getElem?_getD]
    have hi : i < hs.length := by simp [rangeI_len] at h1; omega
    simp [List.getElem?_eq_getElem hi]
theorem ord_range {m n : Nat} (h : n ≤ m) : firstI (ordBad m (rangeI n)) (rangeI n).length = none := by
  rw [firstI_none]
  intro i hi
  rw [ordBad_at hi, rangeI_get]
  rw [rangeI_len] at hi
  rw [rangeI_take _ _ (Nat.le_of_lt hi)]
  have h1 : ¬ (i : Int) ∈ rangeI i := by
    rw [mem_rangeI]
    rintro ⟨j, hj, e⟩
    omega
  simp [h1]
  omega
theorem fair_ag {hs : List CallR} (h : Fair hs) (n : Nat) (i : Nat) (hi : i < (hs.take n).length) : agBad (hs.take n) i = false := by
  have hi2 : i < n ∧ i < hs.length := by simp at hi; omega
  have b := h.at_ i hi2.2
  rw [agBad_at hi, List.getElem_take, List.take_take, Nat.min_eq_left (by omega)]
  rw [Bool.and_eq_false_iff]
  rcases b.t with h0 | ⟨h0, _⟩
  · left; simp [h0]
  · right
    rw [List.any_eq_false]
    intro z hz
    obtain ⟨j, hj, rfl⟩ := List.getElem_of_mem hz
    rw [List.getElem_take]
    have hj2 : j < i := by simp at hj; omega
    have := (h.at_ j (by omega)).a1
    simp
    omega
theorem fair_bad {hs : List CallR} (h : Fair hs) (n : Nat) (i : Nat) (hi : i < (hs.take n).length) : badAt (hs.take n) i = false := by
  have hi2 : i < n ∧ i < hs.length := by simp at hi; omega
  have b := h.at_ i hi2.2
  rw [badAt_at hi, List.getElem_take, List.take_take, Nat.min_eq_left (by omega)]
  by_cases ht : 0 < hs[i].told
  · rw [b.said ht]; simp
  · simp [ht]
/-- An order that is no more than its own numbers' beginning. -/
theorem fair_judge {hs : List CallR} (h : Fair hs) {n : Nat} (hn : n ≤ hs.length) (hz : ∀ (j : Nat) (hj : j < hs.length), n ≤ j → hs[j].told = 0) : judgeP hs (rangeI n) = (0, 0) := by
  have hl := h.len
  refine judgeP_ok (formP_ok (by omega) h.oks (ord_range hn) ?_) ?_ ?_
  · rw [firstI_none]
    intro i hi
    rw [leftOut_at hi]
    by_cases hin : i < n
    · have : (i : Int) ∈ rangeI n := mem_rangeI.2 ⟨i, hin, rfl⟩
      simp [this]
    · rw [hz i hi (by omega)]
      simp
  · rw [callsOf_range hn, firstI_none]
    exact fun i hi => fair_ag h n i hi
  · rw [callsOf_range hn, firstI_none]
    exact fun i hi => fair_bad h n i hi
theorem fair_all {hs : List CallR} (h : Fair hs) : judgeP hs (rangeI hs.length) = (0, 0) := fair_judge h (Nat.le_refl _) (fun j hj hle => by omega)
theorem callsOf_all (hs : List CallR) : callsOf hs (rangeI hs.length) = hs := by rw [callsOf_range (Nat.le_refl _), List.take_length]


/-- What CheckTrue keeps in memory. -/
structure TrueS (w wr : World) (B : Option Addr) (m d : Nat) (hs : List CallR) (C : Option Addr) (cc : Nat) (A6 : Option Addr) (c6 : Nat) (rows : List Rw) (fb : Nat) : Prop where
  below : Below w.heap.size w wr
  hist : Hist w.heap.size wr B m d hs
  ints : Ints w.heap.size wr C m cc (rangeI m)
  rows_ : Rd w.heap.size 86 wr 3 A6 rows.length c6 (rowCells rows)
  blk : wr.heap[fb]? = some (.cells #[.int .i64 0, .int .i64 0] 35 (0, 0))
section
variable {w wr w' : World} {B C A6 : Option Addr} {m d cc c6 fb : Nat} {hs : List CallR} {rows : List Rw}
theorem TrueS.next (h : TrueS w wr B m d hs C cc A6 c6 rows fb) (hb : Below wr.heap.size wr w') : TrueS w w' B m d hs C cc A6 c6 rows fb :=
  ⟨h.below.trans (hb.mono h.below.size), h.hist.below hb, h.ints.below hb, h.rows_.below hb, (hb.block _ (Array.getElem?_eq_some_iff.1 h.blk).1).trans h.blk⟩
theorem TrueS.done {g : Nat} (h : TrueS w wr B m d hs C cc A6 c6 rows fb) (hg : wr.grownBy w' (some g)) (hT : IsT wr g 88) (hge : w.heap.size ≤ g) : TrueS w w' B m d hs C cc A6 c6 rows fb := by
  have hgr : ∀ j, some g = some j → IsT wr j 88 ∧ w.heap.size ≤ j := fun j hj => by
    injection hj with hj
    subst hj
    exact ⟨hT, hge⟩
  have hne : fb ≠ g := IsT.ne (⟨_, _, h.blk⟩ : IsT wr fb 35) hT (by decide)
  exact ⟨h.below.grown hg h.below.size (fun j hj => by injection hj with hj; omega), h.hist.grownR hg hgr (by decide) (by decide) (by decide) (by decide), h.ints.grownR hg hgr (by decide), h.rows_.grownR hg hgr (by decide),
    (hg.block _ (Array.getElem?_eq_some_iff.1 h.blk).1 (by intro e; injection e with e; exact hne e)).trans h.blk⟩
end
theorem own_hist {w : World} {base own : Nat} {A : Option Addr} {n c : Nat} {hs : List CallR} (h : w.ownsRow own 44 10 (.slice A n c) n (hs.flatMap CallR.enc)) (hi : ∀ x ∈ hs, CallIn base w x) (hl : n ≤ 1000) : Hist base w A n c hs := by
  obtain ⟨A', c', e, hr⟩ := Rd.of_own (base := base) h
  injection e with e1 _ e2
  subst e1 e2
  exact ⟨hr, hi, by omega⟩
theorem own_ints {w : World} {base own : Nat} {A : Option Addr} {n c : Nat} {os : List Int} (h : w.ownsRow own 3 1 (.slice A n c) n (intCs os)) (hl : n ≤ 1000) : Ints base w A n c os := by
  obtain ⟨A', c', e, hr⟩ := Rd.of_own (base := base) h
  injection e with e1 _ e2
  subst e1 e2
  exact ⟨hr, by omega⟩
theorem Ints.pre {base : Nat} {w : World} {A : Option Addr} {n c : Nat} (h : Ints base w A n c (rangeI n)) {q : Nat} (hq : q ≤ n) : Ints base w A q c (rangeI q) := by
  have h1 := h.rd.prefix_ (hi := q) (c' := c) hq (Nat.le_trans hq h.rd.cap) (Nat.le_refl _) h.rd.nil
  rw [flat_take intEnc 1 (fun _ => rfl), rangeI_take n q hq] at h1
  exact ⟨h1, by have := h.big; omega⟩

set_option maxHeartbeats 16000000 in
set_option maxRecDepth 100000 in
theorem True_walk {w : World} {A : Option Addr} {n c : Nat} {ts : List TurnR} (hh : Turns w.heap.size w A n c ts) :
    Calls Try.prog 7 #[.slice A n c] w fun e w' => e = .returned (.bool true) ∧ Below w.heap.size w w' := by
  have H := Asd.mk (fun W (h : Below w.heap.size w W) => hh.below h)
  clear hh
  go_enter Try.func7, Try.ntmps7
  go_wp2_with fail
  refine (works_calls w).mono ?_
  rintro e w1 ⟨rfl, hb1⟩
  have B1 := Asd.mk hb1
  clear hb1
  go_wp2_with fail
  refine (made_calls (H.out w1 B1.out) B1.out.size).mono ?_
  rintro e w2 ⟨B, m, d, hs, rfl, hO2, hI2, hBu, hb2⟩
  have hlen : hs.length = m := by
    have h1 := hO2.1
    rw [flat_len CallR.enc 10 (fun _ => rfl)] at h1
    omega
  have hm40 : m ≤ 40 := by have := hBu.len; omega
  have HS2 := Asd.mk (own_hist hO2 hI2 (by omega))
  have B2 := Asd.mk (B1.out.trans (hb2.mono B1.out.size))
  have FA := Asd.mk hBu.fair
  have LN := Asd.mk hlen
  clear hO2 hI2 hBu hb2 hlen B1 H
  go_wp2_with fail
  refine (numbers_calls w.heap.size m (by omega) w2 B2.out.size).mono ?_
  rintro e w3 ⟨C, cc, rfl, hO3, hb3⟩
  have I3 : Asd (Ints w.heap.size w3 C m cc (rangeI m)) := ⟨own_ints hO3 (by omega)⟩
  have HS3 := Asd.mk (HS2.out.below hb3)
  have B3 := Asd.mk (B2.out.trans (hb3.mono B2.out.size))
  clear hO3 hb3 HS2 B2
  have jc := Judge_calls HS3.out I3.out B3.out.size
  rw [← LN.out, fair_all FA.out, LN.out] at jc
  go_wp2_with fail
  refine jc.mono ?_
  clear jc
  rintro e w4 ⟨rfl, hb4⟩
  have I4 := Asd.mk (I3.out.below hb4)
  have HS4 := Asd.mk (HS3.out.below hb4)
  have B4 := Asd.mk (B3.out.trans (hb4.mono B3.out.size))
  clear hb4 I3 HS3 B3
  have rc := CRows_calls HS4.out I4.out B4.out.size
  unfold RowsPost at rc
  rw [← LN.out, fair_all FA.out, leftP_ok (fair_all FA.out), callsOf_all, LN.out] at rc
  go_wp2_with fail
  refine rc.mono ?_
  clear rc
  rintro e w5 ⟨hb5, A6, c6, rfl, hr5⟩
  have hal : Below w5.heap.size w5 (w5.alloc (.cells #[.int .i64 0, .int .i64 0] 35)) := (Below.refl _ _).alloc (Nat.le_refl _) _
  have T6 : Asd (TrueS w (w5.alloc (.cells #[.int .i64 0, .int .i64 0] 35)) B m d hs C cc A6 c6 (rowsP0 hs) w5.heap.size) :=
    ⟨⟨(B4.out.trans (hb5.mono B4.out.size)).trans (hal.mono (Nat.le_trans B4.out.size hb5.size)), (HS4.out.below hb5).below hal, (I4.out.below hb5).below hal, hr5.below hal, heap_alloc_new _ _⟩⟩
  clear hb5 hr5 hal HS4 I4 B4
  go_upto_region 8 with fail
  generalize (w5.alloc (.cells #[.int .i64 0, .int .i64 0] 35)) = w6 at T6 ⊢
  generalize w5.heap.size = fb at T6 ⊢
  go_wp2_with fail
  refine (New_calls w.heap.size w6 T6.out.below.size).mono ?_
  rintro e w7 ⟨g, rfl, hT7, hg7, hb7⟩
  have T7 := Asd.mk (T6.out.next hb7)
  have TB : Asd (∃ A' c', Tab w.heap.size w7 g (rowsP0 (hs.take 0)) A' c') := ⟨none, 0, hT7⟩
  have GE : Asd (w.heap.size ≤ g) := ⟨hT7.ge⟩
  clear hT7 hg7 hb7 T6
  go_wp2_with fail
  go_loopw [34] (fun s34 wr => ∃ k : Nat, s34 = .int .i64 k ∧ k ≤ m ∧ Asd (TrueS w wr B m d hs C cc A6 c6 (rowsP0 hs) fb) ∧ Asd (∃ A' c', Tab w.heap.size wr g (rowsP0 (hs.take k)) A' c')) (fun s34 _ => m - (intOf s34).toNat)
  case atStart => exact ⟨0, rfl, Nat.zero_le _, T7, TB⟩
  case round =>
    obtain ⟨k, rfl, hkm, TW, KW⟩ := hrel
    by_cases hlt : k < m
    · obtain ⟨b, off, rfl, hbl, hil, hcs⟩ := TW.out.hist.rd.at_enc (enc := CallR.enc) (fun _ => rfl) (by omega) hlt
      have hcc : k < d := Nat.lt_of_lt_of_le hlt TW.out.hist.rd.cap
      have hin := TW.out.hist.ins _ (List.getElem_mem hil)
      have hsn : rowsP0 (hs.take (k + 1)) = (doP (rowsP0 (hs.take k)) hs[k].ops).rows := by rw [List.take_succ_eq_append_getElem hil, rowsP0_snoc]
      generalize hs[k] = y at hcs hin hsn
      have c0 := hcs 0 _ rfl
      have c1 := hcs 1 _ rfl
      have c2 := hcs 2 _ rfl
      have c3 := hcs 3 _ rfl
      have c4 := hcs 4 _ rfl
      have c5 := hcs 5 _ rfl
      have c6' := hcs 6 _ rfl
      have c7 := hcs 7 _ rfl
      have c8 := hcs 8 _ rfl
      have c9 := hcs 9 _ rfl
      rw [Nat.add_zero] at c0
      have IN := Asd.mk hin
      have SN := Asd.mk hsn
      clear hcs hin hsn
      obtain ⟨A', c', hT⟩ := KW.out
      have hal := fun o => (Below.refl wr.heap.size wr).alloc (Nat.le_refl _) o
      have DOC := Asd.mk (fun o => Do_calls (hT.below (hal o)) y.ops y.oA y.on y.oc (IN.out.below (hal o)).rdo (IN.out.below (hal o)).fits)
      have GT := Asd.mk (fun o => (⟨_, _, (hT.below (hal o)).blk⟩ : IsT (wr.alloc o) g 88))
      have TN := Asd.mk (fun o => TW.out.next (hal o))
      clear hT hal KW
      go_wp2_with fail
      refine (DOC.out _).mono ?_
      rintro e w9 ⟨A1, n1, cc1, rr1, rfl, hg9, hT9, _, _⟩
      have T9 := Asd.mk ((TN.out _).done hg9 (GT.out _) GE.out)
      have K9 : Asd (∃ A' c', Tab w.heap.size w9 g (rowsP0 (hs.take (k + 1))) A' c') := ⟨by rw [SN.out]; exact hT9⟩
      clear hg9 hT9
      go_wp2_with fail
      go_roundw
      case measure => simp [intOf]; omega
      case rel => exact ⟨k + 1, by go_num, by omega, T9, K9⟩
    · obtain rfl : k = m := by omega
      have hall : hs.take k = hs := List.take_of_length_le (by have := LN.out; omega)
      rw [hall] at KW
      clear hall T7 TB
      obtain ⟨A', c', hT⟩ := KW.out
      have RC := Asd.mk (Rows_calls hT ⟨⟨#[]⟩, ⟨#[]⟩⟩)
      rw [rows_all] at RC
      unfold SpanR.enc at RC
      clear hT KW
      obtain ⟨x0, x1, x2⟩ := fault_cells TW.out.blk
      go_wp2_with fail
      refine RC.out.mono ?_
      rintro e w9 ⟨A9, c9, rfl, hr9, _, hb9⟩
      have T9 := Asd.mk (TW.out.next hb9)
      have R9 := Asd.mk hr9
      have LB : Asd ((rowsP0 hs).length ≤ 140737488355328) := ⟨by have := playP_len (l := []) List.Pairwise.nil (by simp) (hs.map CallR.ops); unfold rowsP0; omega⟩
      clear hb9 hr9 RC x0 x1 x2 TW
      have si := SameRows_quiet (base := w.heap.size) T9.out.rows_ R9.out LB.out
      rw [decide_eq_true rfl] at si
      go_wp2_with fail
      refine si.mono ?_
      clear si
      rintro e w10 ⟨rfl, q10, rfl⟩
      have T10 : Asd (TrueS w (w9.drewN q10) B k d hs C cc A6 c6 (rowsP0 hs) fb) := ⟨T9.out.next ⟨rfl, rfl, rfl, Nat.le_refl _, fun _ _ => rfl⟩⟩
      clear R9 LB T9
      generalize w9.drewN q10 = w11 at T10 ⊢
      have hcd : k ≤ d := T10.out.hist.rd.cap
      have hcc : k ≤ cc := T10.out.ints.rd.cap
      go_wp2_with fail
      go_loopw [10] (fun s10 wr => ∃ q : Nat, s10 = .int .i64 q ∧ q ≤ k ∧ Asd (wr = w11) ∧ Asd (∀ (j : Nat) (hj : j < hs.length), q ≤ j → hs[j].told = 0)) (fun s10 _ => (intOf s10).toNat)
      case atStart => exact ⟨k, rfl, Nat.le_refl _, by first | exact ⟨rfl⟩ | exact ⟨trivial⟩, ⟨fun j hj hle => by have := LN.out; omega⟩⟩
      case round =>
        obtain ⟨q, rfl, hqk, E, Z⟩ := hrel
        have he := E.out
        subst he
        have fin : Asd (Calls Try.prog 15 #[.slice B k d, .slice C q cc] wr fun e w' => e = .returned (.agg #[.int .i64 0, .int .i64 0]) ∧ Below wr.heap.size wr w') := ⟨by
          have := Judge_calls T10.out.hist (T10.out.ints.pre hqk) T10.out.below.size
          rwa [fair_judge FA.out (by have := LN.out; omega) Z.out] at this⟩
        have hcq : q ≤ cc := by omega
        by_cases hq0 : 0 < q
        · obtain ⟨p, rfl⟩ : ∃ p, q = p + 1 := ⟨q - 1, by omega⟩
          obtain ⟨b, off, rfl, hbl, hil, hcs⟩ := T10.out.hist.rd.at_enc (enc := CallR.enc) (fun _ => rfl) (by omega) (by omega : p < k)
          have hpd : p < d := by omega
          have c1 := hcs 1 _ rfl
          have ZN : Asd (hs[p].told = 0 → ∀ (j : Nat) (hj : j < hs.length), p ≤ j → hs[j].told = 0) := ⟨fun h j hj hle => by
            rcases Nat.lt_or_ge p j with h1 | h1
            · exact Z.out j hj (by omega)
            · obtain rfl : j = p := by omega
              exact h⟩
          generalize hs[p].told = t at c1 ZN
          clear hcs
          have hpp : IntKind.i64.wrap (((p + 1 : Nat) : Int) - 1) = (p : Int) := by rw [IntWalk.i64_in _ (by omega)]; omega
          by_cases ht : t = 0
          · subst ht
            have Z2 := Asd.mk (ZN.out rfl)
            clear ZN Z
            go_wp2_with fail
            go_roundw
            case measure => simp [intOf]
            case rel => exact ⟨p, rfl, by omega, by first | exact ⟨rfl⟩ | exact ⟨trivial⟩, Z2⟩
          · have ht2 : (t == 0) = false := by simpa using ht
            go_wp2_with fail
            refine fin.out.mono ?_
            rintro e w12 ⟨rfl, hb12⟩
            have T12 := Asd.mk (T10.out.next hb12)
            clear hb12
            go_wp2_with fail
            go_ret
            exact ⟨rfl, T12.out.below⟩
        · obtain rfl : q = 0 := by omega
          go_wp2_with fail
          refine fin.out.mono ?_
          rintro e w12 ⟨rfl, hb12⟩
          have T12 := Asd.mk (T10.out.next hb12)
          clear hb12
          go_wp2_with fail
          go_ret
          exact ⟨rfl, T12.out.below⟩

end Go.Proofs.Ytlhjfblpinpjiaa

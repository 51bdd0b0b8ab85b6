/- Calls in memory; may a request, a call, be? -/
import Derived.Test.YtlhjfblpinpjiaaC1
set_option linter.unusedVariables false
set_option linter.unusedSimpArgs false
namespace Go.Proofs.Ytlhjfblpinpjiaa
open Go.RowKit

def reqOk (cl sq : Int) (ops : List OpR) : Bool :=
  (decide (0 ≤ cl) && decide (cl ≤ 1000)) && (decide (1 ≤ sq) && decide (sq ≤ 1048576)) && (decide (1 ≤ (ops.length : Int)) && decide ((ops.length : Int) ≤ 32)) && !ops.any (fun x => !opOk x)
def callOk (asked told cl sq : Int) (ops : List OpR) : Bool :=
  decide (1 ≤ asked) && decide (asked ≤ 1099511627776) && (decide (told = 0) || (decide (asked ≤ told) && decide (told ≤ 1099511627776))) && reqOk cl sq ops

/-- A call: its words in memory, and what is read there. -/
structure CallR where
  asked : Int
  told : Int
  cl : Int
  sq : Int
  oA : Option Addr
  on : Nat
  oc : Nat
  pc : Int
  ps : Int
  rA : Option Addr
  rn : Nat
  rc : Nat
  at_ : Int
  code : Int
  ops : List OpR
  res : List Res
  rr : List RRes
def CallR.enc (x : CallR) : List Value := [.int .i64 x.asked, .int .i64 x.told, .int .i64 x.cl, .int .i64 x.sq, .slice x.oA x.on x.oc, .int .i64 x.pc, .int .i64 x.ps, .slice x.rA x.rn x.rc, .int .i64 x.at_, .int .i64 x.code]
def CallR.ok (x : CallR) : Bool := callOk x.asked x.told x.cl x.sq x.ops
structure CallIn (base : Nat) (w : World) (x : CallR) : Prop where
  rdo : Rd base 64 w 6 x.oA x.on x.oc (opCells x.ops)
  fits : ∀ y ∈ x.ops, Fits y
  obig : x.on ≤ 140737488355328
  rdr : Rd base 47 w 4 x.rA x.rn x.rc (resCells x.rr)
  rins : All2 (RIn base w) x.rr x.res
  rbig : x.rn ≤ 140737488355328
theorem CallIn.below {base : Nat} {w w' : World} {x : CallR} (h : CallIn base w x) (hb : Below w.heap.size w w') : CallIn base w' x :=
  ⟨h.rdo.below hb, h.fits, h.obig, h.rdr.below hb, RIns.below h.rins hb, h.rbig⟩
theorem CallIn.grownR {base U : Nat} {w w' : World} {row : Option Nat} {x : CallR} (h : CallIn base w x) (hg : w.grownBy w' row) (hr : ∀ j, row = some j → IsT w j U ∧ base ≤ j) (h1 : U ≠ 64) (h2 : U ≠ 47) (h3 : U ≠ 86) : CallIn base w' x :=
  ⟨h.rdo.grownR hg hr h1, h.fits, h.obig, h.rdr.grownR hg hr h2, RIns.grownR h.rins hg hr h3, h.rbig⟩
/-- A history, in memory. -/
structure Hist (base : Nat) (w : World) (A : Option Addr) (n c : Nat) (hs : List CallR) : Prop where
  rd : Rd base 44 w 10 A n c (hs.flatMap CallR.enc)
  ins : ∀ x ∈ hs, CallIn base w x
  big : n ≤ 140737488355328
theorem Hist.below {base : Nat} {w w' : World} {A : Option Addr} {n c : Nat} {hs : List CallR} (h : Hist base w A n c hs) (hb : Below w.heap.size w w') : Hist base w' A n c hs :=
  ⟨h.rd.below hb, fun x hx => (h.ins x hx).below hb, h.big⟩
theorem Hist.grownR {base U : Nat} {w w' : World} {row : Option Nat} {A : Option Addr} {n c : Nat} {hs : List CallR} (h : Hist base w A n c hs) (hg : w.grownBy w' row) (hr : ∀ j, row = some j → IsT w j U ∧ base ≤ j) (h0 : U ≠ 44) (h1 : U ≠ 64) (h2 : U ≠ 47) (h3 : U ≠ 86) : Hist base w' A n c hs :=
  ⟨h.rd.grownR hg hr h0, fun x hx => (h.ins x hx).grownR hg hr h1 h2 h3, h.big⟩
theorem Hist.len {base : Nat} {w : World} {A : Option Addr} {n c : Nat} {hs : List CallR} (h : Hist base w A n c hs) : hs.length = n := h.rd.count (enc := CallR.enc) (fun _ => rfl) (by omega)

set_option maxHeartbeats 4000000 in
/-- op.CheckAll's look: an operation that may not be. -/
theorem CheckAll1_calls (x : OpR) (hk : x.key.size ≤ 9223372036854775807) (hv : x.val.size ≤ 9223372036854775807) (w : World) :
    Calls Try.prog 55 #[.agg x.enc.toArray] w fun e w' => e = .returned (.bool (!opOk x)) ∧ Below w.heap.size w w' := by
  have hc := fun W => Check_calls x hk hv W
  have C := Asd.mk hc
  clear hc
  unfold OpR.enc at *
  cases ho : opOk x with
  | true =>
    have O := Asd.mk ho
    go_enter Try.func55, Try.ntmps55
    go_wp2_with fail
    refine (C.out _).mono ?_
    rw [O.out]
    rintro e w' ⟨rfl, hb⟩
    go_wp2_with fail
    go_ret
    exact ⟨rfl, (((Below.refl _ _).alloc (Nat.le_refl _) _).trans (hb.mono (by simp)))⟩
  | false =>
    have O := Asd.mk ho
    go_enter Try.func55, Try.ntmps55
    go_wp2_with fail
    refine (C.out _).mono ?_
    rw [O.out]
    rintro e w' ⟨rfl, hb⟩
    go_wp2_with fail
    go_ret
    exact ⟨rfl, (((Below.refl _ _).alloc (Nat.le_refl _) _).trans (hb.mono (by simp)))⟩

theorem fidx_any {α : Type} (p : α → Bool) (l : List α) (h : l.any p = true) : 0 ≤ fidx p l := by unfold fidx; rw [if_pos h]; omega
theorem fidx_none {α : Type} (p : α → Bool) (l : List α) (h : l.any p = false) : fidx p l = -1 := by unfold fidx; rw [h]; rfl

set_option maxHeartbeats 4000000 in
theorem ContainsOp_calls {base : Nat} {T : TypeId} (p : OpR → Bool) (g : Nat) (eg : ∀ args w, (callFunc g args).run Try.prog w = .ok (.enter g args) w) (w : World)
    (A : Option Addr) (n c : Nat) (l : List OpR) (hr : Rd base T w 6 A n c (opCells l)) (hbig : n ≤ 140737488355328)
    (hp : ∀ (W : World) (x : OpR), x ∈ l → Calls Try.prog g #[.agg x.enc.toArray] W fun e w' => e = .returned (.bool (p x)) ∧ Below W.heap.size W w') (b : Bool) (hb : l.any p = b) :
    Calls Try.prog 54 #[.slice A n c, .func (.func g) #[] #[]] w fun e w' => e = .returned (.bool b) ∧ Below w.heap.size w w' := by
  have IX := Asd.mk (IndexFunc_op p g eg w A n c l hr hbig hp)
  clear hr hp eg
  cases b with
  | true =>
    have h0 := fidx_any p l hb
    generalize fidx p l = z at h0 IX
    clear hb
    go_enter Try.func54, Try.ntmps54
    go_wp2_with fail
    refine IX.out.mono ?_
    rintro e w' ⟨rfl, hb'⟩
    go_wp2_with fail
    go_ret
    exact ⟨rfl, hb'⟩
  | false =>
    have h0 := fidx_none p l hb
    rw [h0] at IX
    clear hb h0
    go_enter Try.func54, Try.ntmps54
    go_wp2_with fail
    refine IX.out.mono ?_
    rintro e w' ⟨rfl, hb'⟩
    go_wp2_with fail
    go_ret
    exact ⟨rfl, hb'⟩

set_option maxHeartbeats 4000000 in
set_option maxRecDepth 100000 in
theorem CheckAll_calls {base : Nat} {w : World} (cl sq : Int) {A : Option Addr} {n c : Nat} {ops : List OpR} (ho : Rd base 64 w 6 A n c (opCells ops)) (hf : ∀ x ∈ ops, Fits x) (hbig : n ≤ 140737488355328) :
    Calls Try.prog 34 #[.agg #[.int .i64 cl, .int .i64 sq, .slice A n c]] w fun e w' => e = .returned (.int .i64 (if reqOk cl sq ops then 0 else 80)) ∧ Below w.heap.size w w' := by
  have hn := ho.count (enc := OpR.enc) (fun _ => rfl) (by omega)
  have IC : Asd (∀ (x lo hi : Int) (b : Bool), (decide (lo ≤ x) && decide (x ≤ hi)) = b → ∀ W, Calls Try.prog 53 #[.int .i64 x, .int .i64 lo, .int .i64 hi] W fun e w' => e = .returned (.bool b) ∧ W = w') := ⟨fun x lo hi b hb W => by
    have h := op_in x lo hi W
    rwa [hb] at h⟩
  have CC : Asd (∀ (W : World), Below w.heap.size w W → ∀ b, ops.any (fun x => !opOk x) = b → Calls Try.prog 54 #[.slice A n c, .func (.func 55) #[] #[]] W fun e w' => e = .returned (.bool b) ∧ Below W.heap.size W w') := ⟨fun W hW b hb =>
    ContainsOp_calls (base := base) (T := 64) (fun x => !opOk x) 55 (enters_of Try.func55 (by kernel_rfl) rfl) W A n c ops (ho.below hW) hbig (fun W x hx => CheckAll1_calls x (hf x hx).1 (hf x hx).2 W) b hb⟩
  have N := Asd.mk hn
  clear ho hf hn
  generalize hr : (if reqOk cl sq ops then (0 : Int) else 80) = r
  have R := Asd.mk hr
  clear hr
  cases h1 : (decide (0 ≤ cl) && decide (cl ≤ 1000)) with
  | false =>
    have Q1 := Asd.mk h1
    clear h1
    go_enter Try.func34, Try.ntmps34
    go_wp2_with fail
    refine (IC.out _ _ _ false Q1.out _).mono ?_
    rintro e w' ⟨rfl, rfl⟩
    go_wp2_with fail
    all_goals
      go_ret
      refine ⟨?_, by repeat (first | exact Below.refl _ _ | refine Below.alloc ?_ (by simp) _ | refine Below.drew ?_)⟩
      rw [← R.out]
      unfold reqOk
      rw [N.out, Q1.out]
      first | rfl | (simp; done)
  | true =>
    have Q1 := Asd.mk h1
    clear h1
    cases h2 : (decide (1 ≤ sq) && decide (sq ≤ 1048576)) with
    | false =>
      have Q2 := Asd.mk h2
      clear h2
      go_enter Try.func34, Try.ntmps34
      go_wp2_with fail
      refine (IC.out _ _ _ true Q1.out _).mono ?_
      rintro e w' ⟨rfl, rfl⟩
      go_wp2_with fail
      refine (IC.out _ _ _ false Q2.out _).mono ?_
      rintro e w' ⟨rfl, rfl⟩
      go_wp2_with fail
      all_goals
        go_ret
        refine ⟨?_, by repeat (first | exact Below.refl _ _ | refine Below.alloc ?_ (by simp) _ | refine Below.drew ?_)⟩
        rw [← R.out]
        unfold reqOk
        rw [N.out, Q1.out, Q2.out]
        first | rfl | (simp; done)
    | true =>
      have Q2 := Asd.mk h2
      clear h2
      cases h3 : (decide (1 ≤ (n : Int)) && decide ((n : Int) ≤ 32)) with
      | false =>
        have Q3 := Asd.mk h3
        clear h3
        go_enter Try.func34, Try.ntmps34
        go_wp2_with fail
        refine (IC.out _ _ _ true Q1.out _).mono ?_
        rintro e w' ⟨rfl, rfl⟩
        go_wp2_with fail
        refine (IC.out _ _ _ true Q2.out _).mono ?_
        rintro e w' ⟨rfl, rfl⟩
        go_wp2_with fail
        refine (IC.out _ _ _ false Q3.out _).mono ?_
        rintro e w' ⟨rfl, rfl⟩
        go_wp2_with fail
        all_goals
          go_ret
          refine ⟨?_, by repeat (first | exact Below.refl _ _ | refine Below.alloc ?_ (by simp) _ | refine Below.drew ?_)⟩
          rw [← R.out]
          unfold reqOk
          rw [N.out, Q1.out, Q2.out, Q3.out]
          first | rfl | (simp; done)
      | true =>
        have Q3 := Asd.mk h3
        clear h3
        cases ha : ops.any (fun x => !opOk x) with
        | false =>
          have Q4 := Asd.mk ha
          clear ha
          go_enter Try.func34, Try.ntmps34
          go_wp2_with fail
          refine (IC.out _ _ _ true Q1.out _).mono ?_
          rintro e w' ⟨rfl, rfl⟩
          go_wp2_with fail
          refine (IC.out _ _ _ true Q2.out _).mono ?_
          rintro e w' ⟨rfl, rfl⟩
          go_wp2_with fail
          refine (IC.out _ _ _ true Q3.out _).mono ?_
          rintro e w' ⟨rfl, rfl⟩
          go_wp2_with fail
          refine (CC.out _ (by first | exact Below.refl _ _ | exact (Below.refl _ _).alloc (Nat.le_refl _) _) false Q4.out).mono ?_
          rintro e w5 ⟨rfl, hb5⟩
          have hb6 := ((Below.refl w.heap.size w).alloc (Nat.le_refl _) _).trans (hb5.mono (by simp))
          clear hb5
          go_wp2_with fail
          all_goals
            go_ret
            refine ⟨?_, hb6⟩
            rw [← R.out]
            unfold reqOk
            rw [N.out, Q1.out, Q2.out, Q3.out, Q4.out]
            first | rfl | (simp; done)
        | true =>
          have Q4 := Asd.mk ha
          clear ha
          go_enter Try.func34, Try.ntmps34
          go_wp2_with fail
          refine (IC.out _ _ _ true Q1.out _).mono ?_
          rintro e w' ⟨rfl, rfl⟩
          go_wp2_with fail
          refine (IC.out _ _ _ true Q2.out _).mono ?_
          rintro e w' ⟨rfl, rfl⟩
          go_wp2_with fail
          refine (IC.out _ _ _ true Q3.out _).mono ?_
          rintro e w' ⟨rfl, rfl⟩
          go_wp2_with fail
          refine (CC.out _ (by first | exact Below.refl _ _ | exact (Below.refl _ _).alloc (Nat.le_refl _) _) true Q4.out).mono ?_
          rintro e w5 ⟨rfl, hb5⟩
          have hb6 := ((Below.refl w.heap.size w).alloc (Nat.le_refl _) _).trans (hb5.mono (by simp))
          clear hb5
          go_wp2_with fail
          all_goals
            go_ret
            refine ⟨?_, hb6⟩
            rw [← R.out]
            unfold reqOk
            rw [N.out, Q1.out, Q2.out, Q3.out, Q4.out]
            first | rfl | (simp; done)

set_option maxHeartbeats 4000000 in
set_option maxRecDepth 100000 in
theorem MayAll_calls {base : Nat} {w : World} (cl sq : Int) {A : Option Addr} {n c : Nat} {ops : List OpR} (ho : Rd base 64 w 6 A n c (opCells ops)) (hbig : n ≤ 140737488355328) :
    Calls Try.prog 52 #[.agg #[.int .i64 cl, .int .i64 sq, .slice A n c]] w fun e w' => e = .returned (.bool (reqOk cl sq ops)) ∧ Below w.heap.size w w' := by
  have hn := ho.count (enc := OpR.enc) (fun _ => rfl) (by omega)
  have IC : Asd (∀ (x lo hi : Int) (b : Bool), (decide (lo ≤ x) && decide (x ≤ hi)) = b → ∀ W, Calls Try.prog 68 #[.int .i64 x, .int .i64 lo, .int .i64 hi] W fun e w' => e = .returned (.bool b) ∧ w' = W) := ⟨fun x lo hi b hb W => by
    have h := refIn_calls x lo hi W
    rwa [hb] at h⟩
  have O := Asd.mk ho
  have N := Asd.mk hn
  clear ho hn
  generalize hr : reqOk cl sq ops = r
  have R := Asd.mk hr
  clear hr
  cases h1 : (decide (0 ≤ cl) && decide (cl ≤ 1000)) with
  | false =>
    have Q1 := Asd.mk h1
    clear h1
    go_enter Try.func52, Try.ntmps52
    go_wp2_with fail
    refine (IC.out _ _ _ false Q1.out _).mono ?_
    rintro e w' ⟨rfl, rfl⟩
    go_wp2_with fail
    all_goals
      go_ret
      refine ⟨?_, by repeat (first | exact Below.refl _ _ | refine Below.alloc ?_ (by simp) _ | refine Below.drew ?_)⟩
      rw [← R.out]
      unfold reqOk
      rw [N.out, Q1.out]
      first | rfl | (simp; done)
  | true =>
    have Q1 := Asd.mk h1
    clear h1
    cases h2 : (decide (1 ≤ sq) && decide (sq ≤ 1048576)) with
    | false =>
      have Q2 := Asd.mk h2
      clear h2
      go_enter Try.func52, Try.ntmps52
      go_wp2_with fail
      refine (IC.out _ _ _ true Q1.out _).mono ?_
      rintro e w' ⟨rfl, rfl⟩
      go_wp2_with fail
      refine (IC.out _ _ _ false Q2.out _).mono ?_
      rintro e w' ⟨rfl, rfl⟩
      go_wp2_with fail
      all_goals
        go_ret
        refine ⟨?_, by repeat (first | exact Below.refl _ _ | refine Below.alloc ?_ (by simp) _ | refine Below.drew ?_)⟩
        rw [← R.out]
        unfold reqOk
        rw [N.out, Q1.out, Q2.out]
        first | rfl | (simp; done)
    | true =>
      have Q2 := Asd.mk h2
      clear h2
      cases h3 : (decide (1 ≤ (n : Int)) && decide ((n : Int) ≤ 32)) with
      | false =>
        have Q3 := Asd.mk h3
        clear h3
        go_enter Try.func52, Try.ntmps52
        go_wp2_with fail
        refine (IC.out _ _ _ true Q1.out _).mono ?_
        rintro e w' ⟨rfl, rfl⟩
        go_wp2_with fail
        refine (IC.out _ _ _ true Q2.out _).mono ?_
        rintro e w' ⟨rfl, rfl⟩
        go_wp2_with fail
        refine (IC.out _ _ _ false Q3.out _).mono ?_
        rintro e w' ⟨rfl, rfl⟩
        go_wp2_with fail
        all_goals
          go_ret
          refine ⟨?_, by repeat (first | exact Below.refl _ _ | refine Below.alloc ?_ (by simp) _ | refine Below.drew ?_)⟩
          rw [← R.out]
          unfold reqOk
          rw [N.out, Q1.out, Q2.out, Q3.out]
          first | rfl | (simp; done)
      | true =>
        have Q3 := Asd.mk h3
        clear h3
        go_enter Try.func52, Try.ntmps52
        go_wp2_with fail
        refine (IC.out _ _ _ true Q1.out _).mono ?_
        rintro e w' ⟨rfl, rfl⟩
        go_wp2_with fail
        refine (IC.out _ _ _ true Q2.out _).mono ?_
        rintro e w' ⟨rfl, rfl⟩
        go_wp2_with fail
        refine (IC.out _ _ _ true Q3.out _).mono ?_
        rintro e w' ⟨rfl, rfl⟩
        go_wp2_with fail
        go_loopw [3] (fun s3 wr => ∃ k : Nat, s3 = .int .i64 k ∧ k ≤ n ∧ Asd (Below w.heap.size w wr) ∧ Asd (wr.heap[w.heap.size]? = some (.cells #[.int .i64 cl, .int .i64 sq, .slice A n c] 39 (0, 0))) ∧ Asd (∀ j (hj : j < ops.length), j < k → opOk ops[j] = true)) (fun s3 _ => n - (intOf s3).toNat)
        case atStart => exact ⟨0, rfl, Nat.zero_le _, ⟨by repeat (first | exact Below.refl _ _ | refine Below.alloc ?_ (by simp) _ | refine Below.drew ?_)⟩, ⟨by first | exact heap_alloc_new _ _ | (simp; done)⟩, ⟨fun j _ h => absurd h (Nat.not_lt_zero _)⟩⟩
        case round =>
          obtain ⟨k, rfl, hkn, BW, HB, I⟩ := hrel
          have e2 : wr.cell? ⟨w.heap.size, 2, none⟩ = some (.slice A n c) := (cell_of_row wr w.heap.size 2 _ _ _ HB.out).trans rfl
          by_cases hlt : k < n
          · obtain ⟨b, off, rfl, hbl, hil, hcs⟩ := (O.out.below BW.out).at_enc (enc := OpR.enc) (fun _ => rfl) (by omega) hlt
            have hcc : k < c := Nat.lt_of_lt_of_le hlt O.out.cap
            have hy1 : Asd (∀ q, opOk ops[k] = q → q = true → ∀ j (hj : j < ops.length), j < k + 1 → opOk ops[j] = true) := ⟨fun q e1 e2 j hj hjk => by
              rcases Nat.lt_or_ge j k with h1 | h1
              · exact I.out j hj h1
              · obtain rfl : j = k := by omega
                rw [e1, e2]⟩
            have hy0 : Asd (opOk ops[k] = false → ops.any (fun x => !opOk x) = true) := ⟨fun e => List.any_eq_true.2 ⟨_, List.getElem_mem hil, by rw [e]; rfl⟩⟩
            have MC := fun W => RMay_calls ops[k] W
            generalize ops[k] = y at hcs MC hy1 hy0
            have c0 := hcs 0 _ rfl
            have c1 := hcs 1 _ rfl
            have c2 := hcs 2 _ rfl
            have c3 := hcs 3 _ rfl
            have c4 := hcs 4 _ rfl
            have c5 := hcs 5 _ rfl
            rw [Nat.add_zero] at c0
            unfold OpR.enc at MC
            clear hcs
            cases hq : opOk y with
            | true =>
              rw [hq] at MC
              have Q := Asd.mk hq
              have M := Asd.mk MC
              clear hq MC
              go_wp2_with fail
              refine (M.out _).mono ?_
              rintro e w' ⟨rfl, hb'⟩
              go_wp2_with fail
              go_roundw
              case measure => simp [intOf]; omega
              case rel =>
                exact ⟨k + 1, by go_num, by omega, ⟨BW.out.trans (hb'.mono BW.out.size)⟩, ⟨(hb'.block _ (Array.getElem?_eq_some_iff.1 HB.out).1).trans HB.out⟩, ⟨hy1.out _ Q.out rfl⟩⟩
            | false =>
              rw [hq] at MC
              have Q := Asd.mk (hy0.out hq)
              have M := Asd.mk MC
              clear hq MC
              go_wp2_with fail
              refine (M.out _).mono ?_
              rintro e w' ⟨rfl, hb'⟩
              go_wp2_with fail
              go_ret
              refine ⟨?_, BW.out.trans (hb'.mono BW.out.size)⟩
              rw [← R.out]
              unfold reqOk
              rw [N.out, Q1.out, Q2.out, Q3.out, Q.out]
              first | rfl | (simp; done)
          · go_wp2_with fail
            go_ret
            refine ⟨?_, BW.out⟩
            have Q : ops.any (fun x => !opOk x) = false := by
              rw [List.any_eq_false]
              intro x hx
              obtain ⟨t, ht, rfl⟩ := List.getElem_of_mem hx
              rw [I.out t ht (by have := N.out; omega)]
              decide
            rw [← R.out]
            unfold reqOk
            rw [N.out, Q1.out, Q2.out, Q3.out, Q]
            first | rfl | (simp; done)

set_option maxHeartbeats 4000000 in
set_option maxRecDepth 100000 in
theorem may_calls {base : Nat} {w : World} {x : CallR} (h : CallIn base w x) :
    Calls Try.prog 27 #[.agg x.enc.toArray] w fun e w' => e = .returned (.bool x.ok) ∧ Below w.heap.size w w' := by
  have hres : x.ok = callOk x.asked x.told x.cl x.sq x.ops := rfl
  have CC : Asd (∀ (W : World), Below w.heap.size w W → Calls Try.prog 34 #[.agg #[.int .i64 x.cl, .int .i64 x.sq, .slice x.oA x.on x.oc]] W fun e w' => e = .returned (.int .i64 (if reqOk x.cl x.sq x.ops then 0 else 80)) ∧ Below W.heap.size W w') := ⟨fun W hW => CheckAll_calls x.cl x.sq (h.rdo.below hW) h.fits h.obig⟩
  clear h
  obtain ⟨asked, told, cl, sq, oA, on, oc, pc, ps, rA, rn, rc, at_, code, ops, res, rr⟩ := x
  simp only at CC
  unfold CallR.enc
  generalize (⟨asked, told, cl, sq, oA, on, oc, pc, ps, rA, rn, rc, at_, code, ops, res, rr⟩ : CallR).ok = r at *
  simp only at hres
  unfold callOk at hres
  generalize reqOk cl sq ops = q at CC hres
  have R := Asd.mk hres
  clear hres
  by_cases h1 : 1 ≤ asked
  · by_cases h2 : asked ≤ 1099511627776
    · by_cases h3 : told = 0
      · subst h3
        cases q
        all_goals
          go_enter Try.func27, Try.ntmps27
          go_wp2_with fail
          refine (CC.out _ (by first | exact Below.refl _ _ | exact (Below.refl _ _).alloc (Nat.le_refl _) _)).mono ?_
          rintro e w5 ⟨rfl, hb5⟩
          have B6 := Asd.mk (((Below.refl w.heap.size w).alloc (Nat.le_refl _) _).trans (hb5.mono (by simp)))
          clear hb5
          go_wp2_with fail
          all_goals
            go_ret
            exact ⟨by rw [R.out]; simp [*], B6.out⟩
      · have h3b : (told == 0) = false := by simpa using h3
        by_cases h4 : asked ≤ told
        · by_cases h5 : told ≤ 1099511627776
          · cases q
            all_goals
              go_enter Try.func27, Try.ntmps27
              go_wp2_with fail
              refine (CC.out _ (by first | exact Below.refl _ _ | exact (Below.refl _ _).alloc (Nat.le_refl _) _)).mono ?_
              rintro e w5 ⟨rfl, hb5⟩
              have B6 := Asd.mk (((Below.refl w.heap.size w).alloc (Nat.le_refl _) _).trans (hb5.mono (by simp)))
              clear hb5
              go_wp2_with fail
              all_goals
                go_ret
                exact ⟨by rw [R.out]; simp [*], B6.out⟩
          · go_enter Try.func27, Try.ntmps27
            go_wp2_with fail
            all_goals
              go_ret
              exact ⟨by rw [R.out]; first | (simp [*]; done) | (simp [*]; intros; omega) | (simp; intros; omega), by repeat (first | exact Below.refl _ _ | refine Below.alloc ?_ (by simp) _ | refine Below.drew ?_)⟩
        · go_enter Try.func27, Try.ntmps27
          go_wp2_with fail
          all_goals
            go_ret
            exact ⟨by rw [R.out]; first | (simp [*]; done) | (simp [*]; intros; omega) | (simp; intros; omega), by repeat (first | exact Below.refl _ _ | refine Below.alloc ?_ (by simp) _ | refine Below.drew ?_)⟩
    · go_enter Try.func27, Try.ntmps27
      go_wp2_with fail
      all_goals
        go_ret
        exact ⟨by rw [R.out]; first | (simp [*]; done) | (simp [*]; intros; omega) | (simp; intros; omega), by repeat (first | exact Below.refl _ _ | refine Below.alloc ?_ (by simp) _ | refine Below.drew ?_)⟩
  · go_enter Try.func27, Try.ntmps27
    go_wp2_with fail
    all_goals
      go_ret
      exact ⟨by rw [R.out]; first | (simp [*]; done) | (simp [*]; intros; omega) | (simp; intros; omega), by repeat (first | exact Below.refl _ _ | refine Below.alloc ?_ (by simp) _ | refine Below.drew ?_)⟩

set_option maxHeartbeats 4000000 in
set_option maxRecDepth 100000 in
theorem RMay2_calls {base : Nat} {w : World} {x : CallR} (h : CallIn base w x) :
    Calls Try.prog 32 #[.agg x.enc.toArray] w fun e w' => e = .returned (.bool x.ok) ∧ Below w.heap.size w w' := by
  have hres : x.ok = callOk x.asked x.told x.cl x.sq x.ops := rfl
  have CC : Asd (∀ (W : World), Below w.heap.size w W → Calls Try.prog 52 #[.agg #[.int .i64 x.cl, .int .i64 x.sq, .slice x.oA x.on x.oc]] W fun e w' => e = .returned (.bool (reqOk x.cl x.sq x.ops)) ∧ Below W.heap.size W w') := ⟨fun W hW => MayAll_calls x.cl x.sq (h.rdo.below hW) h.obig⟩
  clear h
  obtain ⟨asked, told, cl, sq, oA, on, oc, pc, ps, rA, rn, rc, at_, code, ops, res, rr⟩ := x
  simp only at CC
  unfold CallR.enc
  generalize (⟨asked, told, cl, sq, oA, on, oc, pc, ps, rA, rn, rc, at_, code, ops, res, rr⟩ : CallR).ok = r at *
  simp only at hres
  unfold callOk at hres
  generalize reqOk cl sq ops = q at CC hres
  have R := Asd.mk hres
  clear hres
  by_cases h1 : 1 ≤ asked
  · by_cases h2 : asked ≤ 1099511627776
    · by_cases h3 : told = 0
      · subst h3
        cases q
        all_goals
          go_enter Try.func32, Try.ntmps32
          go_wp2_with fail
          refine (CC.out _ (by first | exact Below.refl _ _ | exact (Below.refl _ _).alloc (Nat.le_refl _) _)).mono ?_
          rintro e w5 ⟨rfl, hb5⟩
          have B6 := Asd.mk (((Below.refl w.heap.size w).alloc (Nat.le_refl _) _).trans (hb5.mono (by simp)))
          clear hb5
          go_wp2_with fail
          all_goals
            go_ret
            exact ⟨by rw [R.out]; simp [*], B6.out⟩
      · have h3b : (told == 0) = false := by simpa using h3
        by_cases h4 : asked ≤ told
        · by_cases h5 : told ≤ 1099511627776
          · cases q
            all_goals
              go_enter Try.func32, Try.ntmps32
              go_wp2_with fail
              refine (CC.out _ (by first | exact Below.refl _ _ | exact (Below.refl _ _).alloc (Nat.le_refl _) _)).mono ?_
              rintro e w5 ⟨rfl, hb5⟩
              have B6 := Asd.mk (((Below.refl w.heap.size w).alloc (Nat.le_refl _) _).trans (hb5.mono (by simp)))
              clear hb5
              go_wp2_with fail
              all_goals
                go_ret
                exact ⟨by rw [R.out]; simp [*], B6.out⟩
          · go_enter Try.func32, Try.ntmps32
            go_wp2_with fail
            all_goals
              go_ret
              exact ⟨by rw [R.out]; first | (simp [*]; done) | (simp [*]; intros; omega) | (simp; intros; omega), by repeat (first | exact Below.refl _ _ | refine Below.alloc ?_ (by simp) _ | refine Below.drew ?_)⟩
        · go_enter Try.func32, Try.ntmps32
          go_wp2_with fail
          all_goals
            go_ret
            exact ⟨by rw [R.out]; first | (simp [*]; done) | (simp [*]; intros; omega) | (simp; intros; omega), by repeat (first | exact Below.refl _ _ | refine Below.alloc ?_ (by simp) _ | refine Below.drew ?_)⟩
    · go_enter Try.func32, Try.ntmps32
      go_wp2_with fail
      all_goals
        go_ret
        exact ⟨by rw [R.out]; first | (simp [*]; done) | (simp [*]; intros; omega) | (simp; intros; omega), by repeat (first | exact Below.refl _ _ | refine Below.alloc ?_ (by simp) _ | refine Below.drew ?_)⟩
  · go_enter Try.func32, Try.ntmps32
    go_wp2_with fail
    all_goals
      go_ret
      exact ⟨by rw [R.out]; first | (simp [*]; done) | (simp [*]; intros; omega) | (simp; intros; omega), by repeat (first | exact Below.refl _ _ | refine Below.alloc ?_ (by simp) _ | refine Below.drew ?_)⟩

end Go.Proofs.Ytlhjfblpinpjiaa

/- The same rows, the same results. Calls in memory; may a request, a call, be? -/
import Derived.Test.YtallnibjmffahaaGreatDoorJ07
import Derived.Test.YtallnibjmffahaaGreatDoorJ08
set_option linter.unusedVariables false
set_option linter.unusedSimpArgs false
namespace Go.Proofs.YtallnibjmffahaaGreatDoor
open Go.RowKit

set_option maxHeartbeats 2000000 in
theorem EqRows_quiet {base : Nat} {w : World} {A B : Option Addr} {n c m d : Nat} {l r : List Rw} (ha : Rd base 131 w 3 A n c (rowCells l)) (hb : Rd base 131 w 3 B m d (rowCells r)) (hbig : n ≤ 140737488355328) :
    Calls Tryz.prog 94 #[.slice A n c, .slice B m d] w fun e w' => e = .returned (.bool (decide (l = r))) ∧ ∃ q, w' = w.drewN q := by
  have hl := ha.count (enc := Rw.enc) (fun _ => rfl) (by omega)
  have hr := hb.count (enc := Rw.enc) (fun _ => rfl) (by omega)
  have RA := Asd.mk ha
  have RB := Asd.mk hb
  clear ha hb
  by_cases hnm : n = m
  · subst hnm
    have HL := Asd.mk hl
    have HR := Asd.mk hr
    clear hl hr
    go_enter Tryz.func94, Tryz.ntmps94
    go_wp2
    go_loopw [13] (fun s13 wr => ∃ k : Nat, s13 = .int .i64 k ∧ k ≤ n ∧ Asd (∃ q, wr = w.drewN q) ∧ Asd (l.take k = r.take k)) (fun s13 _ => n - (intOf s13).toNat)
    case atStart => exact ⟨0, rfl, Nat.zero_le _, ⟨0, rfl⟩, ⟨rfl⟩⟩
    case round =>
      obtain ⟨k, rfl, hkn, ⟨q0, hq0⟩, I⟩ := hrel
      have BW := Asd.mk (show Below w.heap.size w wr by rw [hq0]; exact below_dn _ _)
      have QW := Asd.mk hq0
      clear hq0
      by_cases hlt : k < n
      · obtain ⟨b, off, rfl, hb, hil, c0, c1, c2⟩ := (RA.out.below BW.out).row hlt
        obtain ⟨b', off', rfl, hb', hil', d0, d1, d2⟩ := (RB.out.below BW.out).row hlt
        generalize hx : l[k] = x at c0 c1 c2
        generalize hy : r[k] = y at d0 d1 d2
        have X := Asd.mk hx
        have Y := Asd.mk hy
        clear hx hy
        by_cases hxy : x = y
        · subst hxy
          go_wp2_with fail
          go_quiet (fail)
          go_wp2_with fail
          go_roundw
          case measure => simp [intOf]; omega
          case rel =>
            refine ⟨k + 1, by go_num, by omega, ⟨_, by rw [QW.out, World.drewN_drewN]⟩, ⟨?_⟩⟩
            rw [List.take_succ_eq_append_getElem hil, List.take_succ_eq_append_getElem hil', I.out, X.out, Y.out]
        · have hlr : l ≠ r := by
            rintro rfl
            exact hxy (X.out.symm.trans Y.out)
          have NE := Asd.mk hlr
          clear hlr X Y
          obtain ⟨k1, s1, v1⟩ := x
          obtain ⟨k2, s2, v2⟩ := y
          simp only at c0 c1 c2 d0 d1 d2
          have ne_list : ∀ {a b : ByteArray}, a ≠ b → (a.toList == b.toList) = false ∧ ¬ a.toList = b.toList := fun {a b} h => ⟨by rw [same_eq]; exact decide_eq_false h, fun e => h (by rw [toList_eq, toList_eq] at e; exact key_ext e)⟩
          have NL := Asd.mk @ne_list
          clear ne_list
          by_cases hk : k1 = k2
          · subst hk
            by_cases hs : s1 = s2
            · subst hs
              have hv : v1 ≠ v2 := fun e => hxy (by rw [e])
              obtain ⟨q1, q2⟩ := NL.out hv
              clear hxy hv
              go_wp2_with fail
              go_quiet (fail)
              go_wp2_with fail
              go_ret
              exact ⟨by rw [decide_eq_false NE.out]; rfl, _, by rw [QW.out, World.drewN_drewN]⟩
            · have q1 : (s1 == s2) = false := by simpa using hs
              clear hxy
              go_wp2_with fail
              go_quiet (fail)
              go_wp2_with fail
              go_ret
              exact ⟨by rw [decide_eq_false NE.out]; rfl, _, by rw [QW.out, World.drewN_drewN]⟩
          · obtain ⟨q1, q2⟩ := NL.out hk
            clear hxy
            go_wp2_with fail
            go_quiet (fail)
            go_wp2_with fail
            go_ret
            exact ⟨by rw [decide_eq_false NE.out]; rfl, _, by rw [QW.out, World.drewN_drewN]⟩
      · have : k = n := by omega
        subst this
        go_wp2_with fail
        go_ret
        have hlr : l = r := by
          have h1 : l.take k = l := List.take_of_length_le (by rw [HL.out]; exact Nat.le_refl _)
          have h2 : r.take k = r := List.take_of_length_le (by rw [HR.out]; exact Nat.le_refl _)
          rw [← h1, ← h2, I.out]
        exact ⟨by rw [decide_eq_true hlr]; rfl, _, QW.out⟩
  · have hne : l ≠ r := by rintro rfl; omega
    have hnm' : ((n : Int) == (m : Int)) = false := by rw [beq_eq_false_iff_ne]; omega
    have hnm'' : ((n : Int) != (m : Int)) = true := by rw [bne_iff_ne]; omega
    have NE := Asd.mk hne
    clear hne hl hr
    go_enter Tryz.func94, Tryz.ntmps94
    go_wp2_with fail
    go_ret
    exact ⟨by rw [decide_eq_false NE.out]; rfl, 0, rfl⟩

instance : DecidableEq Res := fun a b => by
  rcases a with ⟨k, s, v, l⟩
  rcases b with ⟨k', s', v', l'⟩
  exact if h : k = k' ∧ s = s' ∧ v = v' ∧ l = l' then .isTrue (by obtain ⟨rfl, rfl, rfl, rfl⟩ := h; rfl) else .isFalse (fun e => h (by injection e with e1 e2 e3 e4; exact ⟨e1, e2, e3, e4⟩))
/-- A result, as it reads in memory. -/
structure RIn (base : Nat) (w : World) (q : RRes) (r : Res) : Prop where
  code : q.code = r.code
  stamp : q.stamp = r.stamp
  val : q.val = r.val
  rd : Rd base 131 w 3 q.A q.n q.c (rowCells r.rows)
  big : q.n ≤ 140737488355328
theorem RIn.below {base : Nat} {w w' : World} {q : RRes} {r : Res} (h : RIn base w q r) (hb : Below w.heap.size w w') : RIn base w' q r := ⟨h.code, h.stamp, h.val, h.rd.below hb, h.big⟩
theorem RIns.below {base : Nat} {w w' : World} {rr : List RRes} {rs : List Res} (h : All2 (RIn base w) rr rs) (hb : Below w.heap.size w w') : All2 (RIn base w') rr rs := All2.mono (fun _ _ q => q.below hb) h
theorem RIns.grownR {base U : Nat} {w w' : World} {row : Option Nat} {rr : List RRes} {rs : List Res} (h : All2 (RIn base w) rr rs) (hg : w.grownBy w' row) (hr : ∀ j, row = some j → IsT w j U ∧ base ≤ j) (hU : U ≠ 131) : All2 (RIn base w') rr rs := All2.mono (fun _ _ q => ⟨q.code, q.stamp, q.val, q.rd.grownR hg hr hU, q.big⟩) h
theorem all2_mem {α β : Type} {R S : α → β → Prop} : ∀ {l : List α} {m : List β}, (∀ a b, b ∈ m → R a b → S a b) → All2 R l m → All2 S l m
  | [], [], _, _ => trivial
  | _ :: _, _ :: _, h, k => ⟨h _ _ (List.mem_cons_self ..) k.1, all2_mem (fun a b hb => h a b (List.mem_cons_of_mem _ hb)) k.2⟩
  | [], _ :: _, _, k => k.elim
  | _ :: _, [], _, k => k.elim
theorem RMs.ins {base B : Nat} {w : World} {rr : List RRes} {rs : List Res} (h : RMs base B w rr rs) (hb : ∀ r ∈ rs, r.rows.length ≤ 140737488355328) : All2 (RIn base w) rr rs :=
  all2_mem (fun q r hr k => ⟨k.code, k.stamp, k.val, k.rd, by have h1 := k.rd.count (enc := Rw.enc) (fun _ => rfl) (by omega); have h2 := hb r hr; omega⟩) h
theorem ne_text {a b : ByteArray} (h : a ≠ b) : (a.toList == b.toList) = false ∧ ¬ a.toList = b.toList := ⟨by rw [same_eq]; exact decide_eq_false h, fun e => h (by rw [toList_eq, toList_eq] at e; exact key_ext e)⟩

set_option maxHeartbeats 4000000 in
set_option maxRecDepth 100000 in
theorem told1_calls {base : Nat} {w : World} {q p : RRes} {r s : Res} (h1 : RIn base w q r) (h2 : RIn base w p s) :
    Calls Tryz.prog 93 #[.agg q.enc.toArray, .agg p.enc.toArray] w fun e w' => e = .returned (.bool (decide (r = s))) ∧ Below w.heap.size w w' := by
  obtain ⟨c1, s1, v1, A, n, c⟩ := q
  obtain ⟨c2, s2, v2, B, m, d⟩ := p
  obtain ⟨c1', s1', v1', l1⟩ := r
  obtain ⟨c2', s2', v2', l2⟩ := s
  obtain ⟨e1, e2, e3, hr1, hb1⟩ := h1
  obtain ⟨e4, e5, e6, hr2, hb2⟩ := h2
  simp only at e1 e2 e3 e4 e5 e6 hr1 hr2 hb1 hb2
  subst e1 e2 e3 e4 e5 e6
  unfold RRes.enc
  have hB : ∀ o1 o2, Below w.heap.size w ((w.alloc o1).alloc o2) := fun o1 o2 => ((Below.refl _ _).alloc (Nat.le_refl _) _).alloc (by simp) _
  have SR : Asd (∀ W, Below w.heap.size w W → Calls Tryz.prog 94 #[.slice A n c, .slice B m d] W fun e w' => e = .returned (.bool (decide (l1 = l2))) ∧ Below W.heap.size W w') := ⟨fun W hW => (EqRows_quiet (hr1.below hW) (hr2.below hW) hb1).mono fun e w' ⟨h, q, hq⟩ => ⟨h, by rw [hq]; exact below_dn _ _⟩⟩
  have BB := Asd.mk hB
  clear hr1 hr2 hB
  have dne : ∀ {P : Prop} [Decidable P], ¬ P → decide P = false := fun h => decide_eq_false h
  by_cases hc : c1 = c2
  · subst hc
    by_cases hs : s1 = s2
    · subst hs
      by_cases hv : v1 = v2
      · subst hv
        have RES : Asd (decide ((⟨c1, s1, v1, l1⟩ : Res) = ⟨c1, s1, v1, l2⟩) = decide (l1 = l2)) := ⟨by rw [decide_eq_decide]; constructor; (intro e; injection e); (rintro rfl; rfl)⟩
        generalize decide (l1 = l2) = bb at *
        go_enter Tryz.func93, Tryz.ntmps93
        go_wp2_with fail
        refine (SR.out _ (BB.out _ _)).mono ?_
        rintro e w3 ⟨rfl, hb3⟩
        have B3 := Asd.mk ((BB.out _ _).trans (hb3.mono (BB.out _ _).size))
        clear hb3
        cases bb
        all_goals
          go_wp2_with fail
          go_ret
          exact ⟨by rw [RES.out]; rfl, B3.out⟩
      · have NE : Asd (decide ((⟨c1, s1, v1, l1⟩ : Res) = ⟨c1, s1, v2, l2⟩) = false) := ⟨dne (fun e => hv (by injection e))⟩
        obtain ⟨q1, q2⟩ := ne_text hv
        clear hv dne
        go_enter Tryz.func93, Tryz.ntmps93
        go_wp2_with fail
        go_ret
        exact ⟨by rw [NE.out]; rfl, BB.out _ _⟩
    · have NE : Asd (decide ((⟨c1, s1, v1, l1⟩ : Res) = ⟨c1, s2, v2, l2⟩) = false) := ⟨dne (fun e => hs (by injection e))⟩
      have q1 : (s1 == s2) = false := by simpa using hs
      clear dne
      go_enter Tryz.func93, Tryz.ntmps93
      go_wp2_with fail
      go_ret
      exact ⟨by rw [NE.out]; rfl, BB.out _ _⟩
  · have NE : Asd (decide ((⟨c1, s1, v1, l1⟩ : Res) = ⟨c2, s2, v2, l2⟩) = false) := ⟨dne (fun e => hc (by injection e))⟩
    have q1 : (c1 == c2) = false := by simpa using hc
    clear dne
    go_enter Tryz.func93, Tryz.ntmps93
    go_wp2_with fail
    go_ret
    exact ⟨by rw [NE.out]; rfl, BB.out _ _⟩

set_option maxHeartbeats 4000000 in
set_option maxRecDepth 100000 in
theorem EqualFunc_calls {base : Nat} {w : World} {A B : Option Addr} {n c m d : Nat} {rr ss : List RRes} {rs ts : List Res} (ha : Rd base 81 w 4 A n c (resCells rr)) (hb : Rd base 81 w 4 B m d (resCells ss)) (h1 : All2 (RIn base w) rr rs) (h2 : All2 (RIn base w) ss ts) (hbig : n ≤ 140737488355328) (hbig2 : m ≤ 140737488355328) :
    Calls Tryz.prog 92 #[.slice A n c, .slice B m d, .func (.func 93) #[] #[]] w fun e w' => e = .returned (.bool (decide (rs = ts))) ∧ Below w.heap.size w w' := by
  have hl := ha.count (enc := RRes.enc) (fun _ => rfl) (by omega)
  have hr := hb.count (enc := RRes.enc) (fun _ => rfl) (by omega)
  have e1 := All2.len h1
  have e2 := All2.len h2
  have RA := Asd.mk ha
  have RB := Asd.mk hb
  have H1 := Asd.mk h1
  have H2 := Asd.mk h2
  clear ha hb h1 h2
  by_cases hnm : n = m
  · subst hnm
    have L1 : Asd (rs.length = n) := ⟨by omega⟩
    have L2 : Asd (ts.length = n) := ⟨by omega⟩
    clear hl hr e1 e2
    go_enter Tryz.func92, Tryz.ntmps92
    go_wp2_with fail
    go_loopw [17] (fun s17 wr => ∃ k : Nat, s17 = .int .i64 k ∧ k ≤ n ∧ Asd (Below w.heap.size w wr) ∧ Asd (rs.take k = ts.take k)) (fun s17 _ => n - (intOf s17).toNat)
    case atStart => exact ⟨0, rfl, Nat.zero_le _, ⟨Below.refl _ _⟩, ⟨rfl⟩⟩
    case round =>
      obtain ⟨k, rfl, hkn, BW, I⟩ := hrel
      by_cases hlt : k < n
      · obtain ⟨b, off, rfl, hbl, hil, hcs⟩ := (RA.out.below BW.out).at_enc (enc := RRes.enc) (fun _ => rfl) (by omega) hlt
        obtain ⟨b', off', rfl, hbl', hil', hds⟩ := (RB.out.below BW.out).at_enc (enc := RRes.enc) (fun _ => rfl) (by omega) hlt
        have hrl : k < rs.length := by have := L1.out; omega
        have htl : k < ts.length := by have := L2.out; omega
        have hcc : k < c := Nat.lt_of_lt_of_le hlt RA.out.cap
        have hcd : k < d := Nat.lt_of_lt_of_le hlt RB.out.cap
        have m1 := (H1.out.at_ k hil hrl).below BW.out
        have m2 := (H2.out.at_ k hil' htl).below BW.out
        have YES : Asd (rs[k] = ts[k] → rs.take (k + 1) = ts.take (k + 1)) := ⟨fun e => by rw [List.take_succ_eq_append_getElem hrl, List.take_succ_eq_append_getElem htl, I.out, e]⟩
        have NO : Asd (rs[k] ≠ ts[k] → rs ≠ ts) := ⟨fun h e => h (by subst e; rfl)⟩
        generalize rr[k] = x at hcs m1
        generalize ss[k] = y at hds m2
        generalize rs[k] = r at m1 YES NO
        generalize ts[k] = s at m2 YES NO
        have hB : ∀ o1 o2, Below wr.heap.size wr ((wr.alloc o1).alloc o2) := fun o1 o2 => ((Below.refl _ _).alloc (Nat.le_refl _) _).alloc (by simp) _
        have TC := Asd.mk (fun o1 o2 => told1_calls (m1.below (hB o1 o2)) (m2.below (hB o1 o2)))
        have BB := Asd.mk hB
        have c0 := hcs 0 _ rfl
        have c1 := hcs 1 _ rfl
        have c2 := hcs 2 _ rfl
        have c3 := hcs 3 _ rfl
        have d0 := hds 0 _ rfl
        have d1 := hds 1 _ rfl
        have d2 := hds 2 _ rfl
        have d3 := hds 3 _ rfl
        rw [Nat.add_zero] at c0 d0
        unfold RRes.enc at TC
        clear hcs hds m1 m2 hB
        go_wp2_with fail
        refine (TC.out _ _).mono ?_
        rintro e w3 ⟨rfl, hb3⟩
        have B3 := Asd.mk (BW.out.trans (((BB.out _ _).trans (hb3.mono (BB.out _ _).size)).mono BW.out.size))
        clear hb3 TC
        by_cases hrs : r = s
        · rw [decide_eq_true hrs]
          have Y := Asd.mk (YES.out hrs)
          clear hrs YES NO
          go_wp2_with fail
          go_roundw
          case measure => simp [intOf]; omega
          case rel => exact ⟨k + 1, by go_num, by omega, B3, Y⟩
        · rw [decide_eq_false hrs]
          have Y := Asd.mk (NO.out hrs)
          clear hrs YES NO
          go_wp2_with fail
          go_ret
          exact ⟨by rw [decide_eq_false Y.out]; rfl, B3.out⟩
      · have hlr : rs = ts := by
          have h1 : rs.take k = rs := List.take_of_length_le (by have := L1.out; omega)
          have h2 : ts.take k = ts := List.take_of_length_le (by have := L2.out; omega)
          rw [← h1, ← h2, I.out]
        have Y := Asd.mk hlr
        clear hlr
        go_wp2_with fail
        go_ret
        exact ⟨by rw [decide_eq_true Y.out]; rfl, BW.out⟩
  · have hne : rs ≠ ts := by rintro rfl; omega
    have hnm' : ((n : Int) == (m : Int)) = false := by rw [beq_eq_false_iff_ne]; omega
    have hnm'' : ((n : Int) != (m : Int)) = true := by rw [bne_iff_ne]; omega
    have NE := Asd.mk hne
    clear hne hl hr e1 e2
    go_enter Tryz.func92, Tryz.ntmps92
    go_wp2_with fail
    go_ret
    exact ⟨by rw [decide_eq_false NE.out]; rfl, Below.refl _ _⟩

end Go.Proofs.YtallnibjmffahaaGreatDoor

set_option linter.unusedVariables false
set_option linter.unusedSimpArgs false
namespace Go.Proofs.YtallnibjmffahaaGreatDoor
open Go.RowKit

def reqOk (cl sq : Int) (ops : List OpR) : Bool :=
  (decide (0 ≤ cl) && decide (cl ≤ 1000)) && (decide (1 ≤ sq) && decide (sq ≤ 1048576)) && (decide (1 ≤ (ops.length : Int)) && decide ((ops.length : Int) ≤ 32)) && !ops.any (fun x => !opOk x)
def callOk (asked told cl sq : Int) (ops : List OpR) : Bool :=
  decide (1 ≤ asked) && decide (asked ≤ 1099511627776) && (decide (told = 0) || (decide (asked ≤ told) && decide (told ≤ 1099511627776))) && reqOk cl sq ops

/-- A call: its words in memory, and what is read there. -/
structure CallR where
  asked : Int
  told : Int
  cl : Int
  sq : Int
  oA : Option Addr
  on : Nat
  oc : Nat
  pc : Int
  ps : Int
  rA : Option Addr
  rn : Nat
  rc : Nat
  at_ : Int
  code : Int
  ops : List OpR
  res : List Res
  rr : List RRes
def CallR.enc (x : CallR) : List Value := [.int .i64 x.asked, .int .i64 x.told, .int .i64 x.cl, .int .i64 x.sq, .slice x.oA x.on x.oc, .int .i64 x.pc, .int .i64 x.ps, .slice x.rA x.rn x.rc, .int .i64 x.at_, .int .i64 x.code]
def CallR.ok (x : CallR) : Bool := callOk x.asked x.told x.cl x.sq x.ops
structure CallIn (base : Nat) (w : World) (x : CallR) : Prop where
  rdo : Rd base 79 w 6 x.oA x.on x.oc (opCells x.ops)
  fits : ∀ y ∈ x.ops, Fits y
  obig : x.on ≤ 140737488355328
  rdr : Rd base 81 w 4 x.rA x.rn x.rc (resCells x.rr)
  rins : All2 (RIn base w) x.rr x.res
  rbig : x.rn ≤ 140737488355328
theorem CallIn.below {base : Nat} {w w' : World} {x : CallR} (h : CallIn base w x) (hb : Below w.heap.size w w') : CallIn base w' x :=
  ⟨h.rdo.below hb, h.fits, h.obig, h.rdr.below hb, RIns.below h.rins hb, h.rbig⟩
theorem CallIn.grownR {base U : Nat} {w w' : World} {row : Option Nat} {x : CallR} (h : CallIn base w x) (hg : w.grownBy w' row) (hr : ∀ j, row = some j → IsT w j U ∧ base ≤ j) (h1 : U ≠ 79) (h2 : U ≠ 81) (h3 : U ≠ 131) : CallIn base w' x :=
  ⟨h.rdo.grownR hg hr h1, h.fits, h.obig, h.rdr.grownR hg hr h2, RIns.grownR h.rins hg hr h3, h.rbig⟩
/-- A history, in memory. -/
structure Hist (base : Nat) (w : World) (A : Option Addr) (n c : Nat) (hs : List CallR) : Prop where
  rd : Rd base 53 w 10 A n c (hs.flatMap CallR.enc)
  ins : ∀ x ∈ hs, CallIn base w x
  big : n ≤ 140737488355328
theorem Hist.below {base : Nat} {w w' : World} {A : Option Addr} {n c : Nat} {hs : List CallR} (h : Hist base w A n c hs) (hb : Below w.heap.size w w') : Hist base w' A n c hs :=
  ⟨h.rd.below hb, fun x hx => (h.ins x hx).below hb, h.big⟩
theorem Hist.grownR {base U : Nat} {w w' : World} {row : Option Nat} {A : Option Addr} {n c : Nat} {hs : List CallR} (h : Hist base w A n c hs) (hg : w.grownBy w' row) (hr : ∀ j, row = some j → IsT w j U ∧ base ≤ j) (h0 : U ≠ 53) (h1 : U ≠ 79) (h2 : U ≠ 81) (h3 : U ≠ 131) : Hist base w' A n c hs :=
  ⟨h.rd.grownR hg hr h0, fun x hx => (h.ins x hx).grownR hg hr h1 h2 h3, h.big⟩
theorem Hist.len {base : Nat} {w : World} {A : Option Addr} {n c : Nat} {hs : List CallR} (h : Hist base w A n c hs) : hs.length = n := h.rd.count (enc := CallR.enc) (fun _ => rfl) (by omega)

set_option maxHeartbeats 4000000 in
/-- op.CheckAll's look: an operation that may not be. -/
theorem CheckAll1_calls (x : OpR) (hk : x.key.size ≤ 9223372036854775807) (hv : x.val.size ≤ 9223372036854775807) (w : World) :
    Calls Tryz.prog 41 #[.agg x.enc.toArray] w fun e w' => e = .returned (.bool (!opOk x)) ∧ Below w.heap.size w w' := by
  have hc := fun W => Check_calls x hk hv W
  have C := Asd.mk hc
  clear hc
  unfold OpR.enc at *
  cases ho : opOk x with
  | true =>
    have O := Asd.mk ho
    go_enter Tryz.func41, Tryz.ntmps41
    go_wp2_with fail
    refine (C.out _).mono ?_
    rw [O.out]
    rintro e w' ⟨rfl, hb⟩
    go_wp2_with fail
    go_ret
    exact ⟨rfl, (((Below.refl _ _).alloc (Nat.le_refl _) _).trans (hb.mono (by simp)))⟩
  | false =>
    have O := Asd.mk ho
    go_enter Tryz.func41, Tryz.ntmps41
    go_wp2_with fail
    refine (C.out _).mono ?_
    rw [O.out]
    rintro e w' ⟨rfl, hb⟩
    go_wp2_with fail
    go_ret
    exact ⟨rfl, (((Below.refl _ _).alloc (Nat.le_refl _) _).trans (hb.mono (by simp)))⟩

theorem fidx_any {α : Type} (p : α → Bool) (l : List α) (h : l.any p = true) : 0 ≤ fidx p l := by unfold fidx; rw [if_pos h]; omega
theorem fidx_none {α : Type} (p : α → Bool) (l : List α) (h : l.any p = false) : fidx p l = -1 := by unfold fidx; rw [h]; rfl

set_option maxHeartbeats 4000000 in
theorem ContainsOp_calls {base : Nat} {T : TypeId} (p : OpR → Bool) (g : Nat) (eg : ∀ args w, (callFunc g args).run Tryz.prog w = .ok (.enter g args) w) (w : World)
    (A : Option Addr) (n c : Nat) (l : List OpR) (hr : Rd base T w 6 A n c (opCells l)) (hbig : n ≤ 140737488355328)
    (hp : ∀ (W : World) (x : OpR), x ∈ l → Calls Tryz.prog g #[.agg x.enc.toArray] W fun e w' => e = .returned (.bool (p x)) ∧ Below W.heap.size W w') (b : Bool) (hb : l.any p = b) :
    Calls Tryz.prog 21 #[.slice A n c, .func (.func g) #[] #[]] w fun e w' => e = .returned (.bool b) ∧ Below w.heap.size w w' := by
  have IX := Asd.mk (IndexFunc_op p g eg w A n c l hr hbig hp)
  clear hr hp eg
  cases b with
  | true =>
    have h0 := fidx_any p l hb
    generalize fidx p l = z at h0 IX
    clear hb
    go_enter Tryz.func21, Tryz.ntmps21
    go_wp2_with fail
    refine IX.out.mono ?_
    rintro e w' ⟨rfl, hb'⟩
    go_wp2_with fail
    go_ret
    exact ⟨rfl, hb'⟩
  | false =>
    have h0 := fidx_none p l hb
    rw [h0] at IX
    clear hb h0
    go_enter Tryz.func21, Tryz.ntmps21
    go_wp2_with fail
    refine IX.out.mono ?_
    rintro e w' ⟨rfl, hb'⟩
    go_wp2_with fail
    go_ret
    exact ⟨rfl, hb'⟩

set_option maxHeartbeats 4000000 in
set_option maxRecDepth 100000 in
theorem CheckAll_calls {base : Nat} {w : World} (cl sq : Int) {A : Option Addr} {n c : Nat} {ops : List OpR} (ho : Rd base 79 w 6 A n c (opCells ops)) (hf : ∀ x ∈ ops, Fits x) (hbig : n ≤ 140737488355328) :
    Calls Tryz.prog 20 #[.agg #[.int .i64 cl, .int .i64 sq, .slice A n c]] w fun e w' => e = .returned (.int .i64 (if reqOk cl sq ops then 0 else 80)) ∧ Below w.heap.size w w' := by
  have hn := ho.count (enc := OpR.enc) (fun _ => rfl) (by omega)
  have IC : Asd (∀ (x lo hi : Int) (b : Bool), (decide (lo ≤ x) && decide (x ≤ hi)) = b → ∀ W, Calls Tryz.prog 40 #[.int .i64 x, .int .i64 lo, .int .i64 hi] W fun e w' => e = .returned (.bool b) ∧ W = w') := ⟨fun x lo hi b hb W => by
    have h := op_in x lo hi W
    rwa [hb] at h⟩
  have CC : Asd (∀ (W : World), Below w.heap.size w W → ∀ b, ops.any (fun x => !opOk x) = b → Calls Tryz.prog 21 #[.slice A n c, .func (.func 41) #[] #[]] W fun e w' => e = .returned (.bool b) ∧ Below W.heap.size W w') := ⟨fun W hW b hb =>
    ContainsOp_calls (base := base) (T := 79) (fun x => !opOk x) 41 (enters_of Tryz.func41 (by kernel_rfl) rfl) W A n c ops (ho.below hW) hbig (fun W x hx => CheckAll1_calls x (hf x hx).1 (hf x hx).2 W) b hb⟩
  have N := Asd.mk hn
  clear ho hf hn
  generalize hr : (if reqOk cl sq ops then (0 : Int) else 80) = r
  have R := Asd.mk hr
  clear hr
  cases h1 : (decide (0 ≤ cl) && decide (cl ≤ 1000)) with
  | false =>
    have Q1 := Asd.mk h1
    clear h1
    go_enter Tryz.func20, Tryz.ntmps20
    go_wp2_with fail
    refine (IC.out _ _ _ false Q1.out _).mono ?_
    rintro e w' ⟨rfl, rfl⟩
    go_wp2_with fail
    all_goals
      go_ret
      refine ⟨?_, by repeat (first | exact Below.refl _ _ | refine Below.alloc ?_ (by simp) _ | refine Below.drew ?_)⟩
      rw [← R.out]
      unfold reqOk
      rw [N.out, Q1.out]
      first | rfl | (simp; done)
  | true =>
    have Q1 := Asd.mk h1
    clear h1
    cases h2 : (decide (1 ≤ sq) && decide (sq ≤ 1048576)) with
    | false =>
      have Q2 := Asd.mk h2
      clear h2
      go_enter Tryz.func20, Tryz.ntmps20
      go_wp2_with fail
      refine (IC.out _ _ _ true Q1.out _).mono ?_
      rintro e w' ⟨rfl, rfl⟩
      go_wp2_with fail
      refine (IC.out _ _ _ false Q2.out _).mono ?_
      rintro e w' ⟨rfl, rfl⟩
      go_wp2_with fail
      all_goals
        go_ret
        refine ⟨?_, by repeat (first | exact Below.refl _ _ | refine Below.alloc ?_ (by simp) _ | refine Below.drew ?_)⟩
        rw [← R.out]
        unfold reqOk
        rw [N.out, Q1.out, Q2.out]
        first | rfl | (simp; done)
    | true =>
      have Q2 := Asd.mk h2
      clear h2
      cases h3 : (decide (1 ≤ (n : Int)) && decide ((n : Int) ≤ 32)) with
      | false =>
        have Q3 := Asd.mk h3
        clear h3
        go_enter Tryz.func20, Tryz.ntmps20
        go_wp2_with fail
        refine (IC.out _ _ _ true Q1.out _).mono ?_
        rintro e w' ⟨rfl, rfl⟩
        go_wp2_with fail
        refine (IC.out _ _ _ true Q2.out _).mono ?_
        rintro e w' ⟨rfl, rfl⟩
        go_wp2_with fail
        refine (IC.out _ _ _ false Q3.out _).mono ?_
        rintro e w' ⟨rfl, rfl⟩
        go_wp2_with fail
        all_goals
          go_ret
          refine ⟨?_, by repeat (first | exact Below.refl _ _ | refine Below.alloc ?_ (by simp) _ | refine Below.drew ?_)⟩
          rw [← R.out]
          unfold reqOk
          rw [N.out, Q1.out, Q2.out, Q3.out]
          first | rfl | (simp; done)
      | true =>
        have Q3 := Asd.mk h3
        clear h3
        cases ha : ops.any (fun x => !opOk x) with
        | false =>
          have Q4 := Asd.mk ha
          clear ha
          go_enter Tryz.func20, Tryz.ntmps20
          go_wp2_with fail
          refine (IC.out _ _ _ true Q1.out _).mono ?_
          rintro e w' ⟨rfl, rfl⟩
          go_wp2_with fail
          refine (IC.out _ _ _ true Q2.out _).mono ?_
          rintro e w' ⟨rfl, rfl⟩
          go_wp2_with fail
          refine (IC.out _ _ _ true Q3.out _).mono ?_
          rintro e w' ⟨rfl, rfl⟩
          go_wp2_with fail
          refine (CC.out _ (by first | exact Below.refl _ _ | exact (Below.refl _ _).alloc (Nat.le_refl _) _) false Q4.out).mono ?_
          rintro e w5 ⟨rfl, hb5⟩
          have hb6 := ((Below.refl w.heap.size w).alloc (Nat.le_refl _) _).trans (hb5.mono (by simp))
          clear hb5
          go_wp2_with fail
          all_goals
            go_ret
            refine ⟨?_, hb6⟩
            rw [← R.out]
            unfold reqOk
            rw [N.out, Q1.out, Q2.out, Q3.out, Q4.out]
            first | rfl | (simp; done)
        | true =>
          have Q4 := Asd.mk ha
          clear ha
          go_enter Tryz.func20, Tryz.ntmps20
          go_wp2_with fail
          refine (IC.out _ _ _ true Q1.out _).mono ?_
          rintro e w' ⟨rfl, rfl⟩
          go_wp2_with fail
          refine (IC.out _ _ _ true Q2.out _).mono ?_
          rintro e w' ⟨rfl, rfl⟩
          go_wp2_with fail
          refine (IC.out _ _ _ true Q3.out _).mono ?_
          rintro e w' ⟨rfl, rfl⟩
          go_wp2_with fail
          refine (CC.out _ (by first | exact Below.refl _ _ | exact (Below.refl _ _).alloc (Nat.le_refl _) _) true Q4.out).mono ?_
          rintro e w5 ⟨rfl, hb5⟩
          have hb6 := ((Below.refl w.heap.size w).alloc (Nat.le_refl _) _).trans (hb5.mono (by simp))
          clear hb5
          go_wp2_with fail
          all_goals
            go_ret
            refine ⟨?_, hb6⟩
            rw [← R.out]
            unfold reqOk
            rw [N.out, Q1.out, Q2.out, Q3.out, Q4.out]
            first | rfl | (simp; done)

set_option maxHeartbeats 4000000 in
set_option maxRecDepth 100000 in
theorem may_calls {base : Nat} {w : World} {x : CallR} (h : CallIn base w x) :
    Calls Tryz.prog 81 #[.agg x.enc.toArray] w fun e w' => e = .returned (.bool x.ok) ∧ Below w.heap.size w w' := by
  have hres : x.ok = callOk x.asked x.told x.cl x.sq x.ops := rfl
  have CC : Asd (∀ (W : World), Below w.heap.size w W → Calls Tryz.prog 20 #[.agg #[.int .i64 x.cl, .int .i64 x.sq, .slice x.oA x.on x.oc]] W fun e w' => e = .returned (.int .i64 (if reqOk x.cl x.sq x.ops then 0 else 80)) ∧ Below W.heap.size W w') := ⟨fun W hW => CheckAll_calls x.cl x.sq (h.rdo.below hW) h.fits h.obig⟩
  clear h
  obtain ⟨asked, told, cl, sq, oA, on, oc, pc, ps, rA, rn, rc, at_, code, ops, res, rr⟩ := x
  simp only at CC
  unfold CallR.enc
  generalize (⟨asked, told, cl, sq, oA, on, oc, pc, ps, rA, rn, rc, at_, code, ops, res, rr⟩ : CallR).ok = r at *
  simp only at hres
  unfold callOk at hres
  generalize reqOk cl sq ops = q at CC hres
  have R := Asd.mk hres
  clear hres
  by_cases h1 : 1 ≤ asked
  · by_cases h2 : asked ≤ 1099511627776
    · by_cases h3 : told = 0
      · subst h3
        cases q
        all_goals
          go_enter Tryz.func81, Tryz.ntmps81
          go_wp2_with fail
          refine (CC.out _ (by first | exact Below.refl _ _ | exact (Below.refl _ _).alloc (Nat.le_refl _) _)).mono ?_
          rintro e w5 ⟨rfl, hb5⟩
          have B6 := Asd.mk (((Below.refl w.heap.size w).alloc (Nat.le_refl _) _).trans (hb5.mono (by simp)))
          clear hb5
          go_wp2_with fail
          all_goals
            go_ret
            exact ⟨by rw [R.out]; simp [*], B6.out⟩
      · have h3b : (told == 0) = false := by simpa using h3
        by_cases h4 : asked ≤ told
        · by_cases h5 : told ≤ 1099511627776
          · cases q
            all_goals
              go_enter Tryz.func81, Tryz.ntmps81
              go_wp2_with fail
              refine (CC.out _ (by first | exact Below.refl _ _ | exact (Below.refl _ _).alloc (Nat.le_refl _) _)).mono ?_
              rintro e w5 ⟨rfl, hb5⟩
              have B6 := Asd.mk (((Below.refl w.heap.size w).alloc (Nat.le_refl _) _).trans (hb5.mono (by simp)))
              clear hb5
              go_wp2_with fail
              all_goals
                go_ret
                exact ⟨by rw [R.out]; simp [*], B6.out⟩
          · go_enter Tryz.func81, Tryz.ntmps81
            go_wp2_with fail
            all_goals
              go_ret
              exact ⟨by rw [R.out]; first | (simp [*]; done) | (simp [*]; intros; omega) | (simp; intros; omega), by repeat (first | exact Below.refl _ _ | refine Below.alloc ?_ (by simp) _ | refine Below.drew ?_)⟩
        · go_enter Tryz.func81, Tryz.ntmps81
          go_wp2_with fail
          all_goals
            go_ret
            exact ⟨by rw [R.out]; first | (simp [*]; done) | (simp [*]; intros; omega) | (simp; intros; omega), by repeat (first | exact Below.refl _ _ | refine Below.alloc ?_ (by simp) _ | refine Below.drew ?_)⟩
    · go_enter Tryz.func81, Tryz.ntmps81
      go_wp2_with fail
      all_goals
        go_ret
        exact ⟨by rw [R.out]; first | (simp [*]; done) | (simp [*]; intros; omega) | (simp; intros; omega), by repeat (first | exact Below.refl _ _ | refine Below.alloc ?_ (by simp) _ | refine Below.drew ?_)⟩
  · go_enter Tryz.func81, Tryz.ntmps81
    go_wp2_with fail
    all_goals
      go_ret
      exact ⟨by rw [R.out]; first | (simp [*]; done) | (simp [*]; intros; omega) | (simp; intros; omega), by repeat (first | exact Below.refl _ _ | refine Below.alloc ?_ (by simp) _ | refine Below.drew ?_)⟩

end Go.Proofs.YtallnibjmffahaaGreatDoor

/- Told just so; the first place. Marks; what is wrong with an order as such. -/
import Derived.Test.YtallnibjmffahaaGreatDoorJ13
import Derived.Maps.OwnSet
set_option linter.unusedVariables false
set_option linter.unusedSimpArgs false
namespace Go.Proofs.YtallnibjmffahaaGreatDoor
open Go.RowKit
open Go.RowKit Go.Maps

/-- The first number below n that p holds of. -/
def firstI (p : Nat → Bool) (n : Nat) : Option Nat := (List.range n).find? p
theorem firstI_hit {p : Nat → Bool} {n k : Nat} (hk : k < n) (hp : p k = true) (hb : ∀ j, j < k → p j = false) : firstI p n = some k := by
  unfold firstI
  rw [List.find?_range_eq_some]
  exact ⟨hp, by simpa using hk, fun j hj => by rw [hb j hj]; rfl⟩
theorem firstI_none {p : Nat → Bool} {n : Nat} : firstI p n = none ↔ ∀ j, j < n → p j = false := by
  unfold firstI
  rw [List.find?_range_eq_none]
  exact ⟨fun h j hj => by simpa using h j hj, fun h j hj => by rw [h j hj]; rfl⟩
theorem firstI_some {p : Nat → Bool} {n k : Nat} : firstI p n = some k ↔ k < n ∧ p k = true ∧ ∀ j, j < k → p j = false := by
  constructor
  · intro h
    unfold firstI at h
    rw [List.find?_range_eq_some] at h
    exact ⟨by simpa using h.2.1, h.1, fun j hj => by simpa using h.2.2 j hj⟩
  · rintro ⟨h1, h2, h3⟩
    exact firstI_hit h1 h2 h3

/-- What a table's answer is, against what a call was told. -/
def CallR.said (x : CallR) (rs : List Res) (fa fc : Int) : Bool := decide (fa = x.at_) && decide (fc = x.code) && decide (rs = x.res)

set_option maxHeartbeats 4000000 in
set_option maxRecDepth 100000 in
theorem told_calls {base : Nat} {w : World} {x : CallR} (h : CallIn base w x) {A1 : Option Addr} {n1 c1 : Nat} {rr1 : List RRes} {rs1 : List Res} (hl : Rd base 81 w 4 A1 n1 c1 (resCells rr1)) (h1 : All2 (RIn base w) rr1 rs1) (hbig : n1 ≤ 140737488355328) (fa fc : Int) :
    Calls Tryz.prog 82 #[.agg x.enc.toArray, .slice A1 n1 c1, .agg #[.int .i64 fa, .int .i64 fc]] w fun e w' => e = .returned (.bool (x.said rs1 fa fc)) ∧ Below w.heap.size w w' := by
  have EC : Asd (∀ W, Below w.heap.size w W → Calls Tryz.prog 92 #[.slice A1 n1 c1, .slice x.rA x.rn x.rc, .func (.func 93) #[] #[]] W fun e w' => e = .returned (.bool (decide (rs1 = x.res))) ∧ Below W.heap.size W w') :=
    ⟨fun W hW => EqualFunc_calls (hl.below hW) (h.rdr.below hW) (RIns.below h1 hW) (RIns.below h.rins hW) hbig h.rbig⟩
  clear h hl h1
  have hres : x.said rs1 fa fc = (decide (fa = x.at_) && decide (fc = x.code) && decide (rs1 = x.res)) := rfl
  generalize x.said rs1 fa fc = r at *
  generalize decide (rs1 = x.res) = q at *
  obtain ⟨asked, told, cl, sq, oA, on, oc, pc, ps, rA, rn, rc, at_, code, ops, res, rr⟩ := x
  simp only at EC hres
  unfold CallR.enc
  have R := Asd.mk hres
  clear hres
  have hB : ∀ o1 o2, Below w.heap.size w ((w.alloc o1).alloc o2) := fun o1 o2 => ((Below.refl _ _).alloc (Nat.le_refl _) _).alloc (by simp) _
  have BB := Asd.mk hB
  clear hB
  by_cases e1 : fa = at_
  · subst e1
    by_cases e2 : fc = code
    · subst e2
      cases q
      all_goals
        go_enter Tryz.func82, Tryz.ntmps82
        go_wp2_with fail
        refine (EC.out _ (BB.out _ _)).mono ?_
        rintro e w3 ⟨rfl, hb3⟩
        have B3 := Asd.mk ((BB.out _ _).trans (hb3.mono (BB.out _ _).size))
        clear hb3
        go_wp2_with fail
        go_ret
        exact ⟨by rw [R.out]; simp, B3.out⟩
    · have e2b : (fc == code) = false := by simpa using e2
      go_enter Tryz.func82, Tryz.ntmps82
      go_wp2_with fail
      go_ret
      exact ⟨by rw [R.out]; simp [e2], BB.out _ _⟩
  · have e1b : (fa == at_) = false := by simpa using e1
    go_enter Tryz.func82, Tryz.ntmps82
    go_wp2_with fail
    go_ret
    exact ⟨by rw [R.out]; simp [e1], BB.out _ _⟩

set_option maxHeartbeats 1000000 in
/-- slices.IndexFunc over calls. -/
theorem IndexFunc_call {base : Nat} {T : TypeId} (p : CallR → Bool) (g : Nat) (eg : ∀ args w, (callFunc g args).run Tryz.prog w = .ok (.enter g args) w) (w : World)
    (A : Option Addr) (n c : Nat) (l : List CallR) (hr : Rd base T w 10 A n c (l.flatMap CallR.enc)) (hbig : n ≤ 140737488355328)
    (hp : ∀ (W : World) (x : CallR), Below w.heap.size w W → x ∈ l → Calls Tryz.prog g #[.agg x.enc.toArray] W fun e w' => e = .returned (.bool (p x)) ∧ Below W.heap.size W w') :
    Calls Tryz.prog 79 #[.slice A n c, .func (.func g) #[] #[]] w fun e w' => e = .returned (.int .i64 (fidx p l)) ∧ Below w.heap.size w w' := by
  have hn := hr.count (enc := CallR.enc) (fun _ => rfl) (by omega)
  have R := Asd.mk hr
  have C := Asd.mk hp
  have N := Asd.mk hn
  clear hr hp hn
  go_enter Tryz.func79, Tryz.ntmps79
  go_wp2
  go_loopw [5, 8] (fun _ s8 wr => ∃ k : Nat, s8 = .int .i64 k ∧ k ≤ n ∧ Asd (Below w.heap.size w wr) ∧ Asd (∀ j (hj : j < l.length), j < k → p l[j] = false)) (fun _ s8 _ => n - (intOf s8).toNat)
  case atStart => exact ⟨0, rfl, Nat.zero_le _, ⟨Below.refl _ _⟩, ⟨fun j _ h => absurd h (Nat.not_lt_zero _)⟩⟩
  case round =>
    obtain ⟨k, rfl, hkn, BW, I⟩ := hrel
    by_cases hlt : k < n
    · obtain ⟨b, off, rfl, hb, hl, hcs⟩ := (R.out.below BW.out).at_enc (enc := CallR.enc) (fun _ => rfl) (by omega) hlt
      have hc := C.out wr l[k] BW.out (List.getElem_mem hl)
      generalize hy : l[k] = y at hcs hc
      have c0 := hcs 0 _ rfl
      have c1 := hcs 1 _ rfl
      have c2 := hcs 2 _ rfl
      have c3 := hcs 3 _ rfl
      have c4 := hcs 4 _ rfl
      have c5 := hcs 5 _ rfl
      have c6 := hcs 6 _ rfl
      have c7 := hcs 7 _ rfl
      have c8 := hcs 8 _ rfl
      have c9 := hcs 9 _ rfl
      rw [Nat.add_zero] at c0
      unfold CallR.enc at hc
      clear hcs
      have Y := Asd.mk hy
      clear hy
      cases hq : p y with
      | true =>
        rw [hq] at hc
        have Q := Asd.mk hq
        clear hq
        go_wp2_with fail
        refine hc.mono ?_
        rintro e w' ⟨rfl, hb'⟩
        go_wp2_with fail
        go_ret
        exact ⟨by rw [fidx_hit p l k hl (by rw [Y.out]; exact Q.out) I.out]; rfl, BW.out.trans (hb'.mono BW.out.size)⟩
      | false =>
        rw [hq] at hc
        have Q := Asd.mk hq
        clear hq
        go_wp2_with fail
        refine hc.mono ?_
        rintro e w' ⟨rfl, hb'⟩
        go_wp2_with fail
        go_roundw
        case measure => simp [intOf]; omega
        case rel =>
          refine ⟨k + 1, by go_num, by omega, ⟨BW.out.trans (hb'.mono BW.out.size)⟩, ⟨fun j hj hjk => ?_⟩⟩
          rcases Nat.lt_or_ge j k with h1 | h1
          · exact I.out j hj h1
          · obtain rfl : j = k := by omega
            rw [Y.out]; exact Q.out
    · go_wp2_with fail
      go_ret
      exact ⟨by rw [fidx_miss p l fun j hj => I.out j hj (by have := N.out; omega)]; rfl, BW.out⟩


set_option maxHeartbeats 4000000 in
theorem form1_calls {base : Nat} {w : World} {x : CallR} (h : CallIn base w x) :
    Calls Tryz.prog 80 #[.agg x.enc.toArray] w fun e w' => e = .returned (.bool (!x.ok)) ∧ Below w.heap.size w w' := by
  have MC : Asd (∀ W, Below w.heap.size w W → Calls Tryz.prog 81 #[.agg x.enc.toArray] W fun e w' => e = .returned (.bool x.ok) ∧ Below W.heap.size W w') := ⟨fun W hW => may_calls (h.below hW)⟩
  clear h
  generalize x.ok = q at *
  unfold CallR.enc at *
  cases q
  all_goals
    go_enter Tryz.func80, Tryz.ntmps80
    go_wp2_with fail
    refine (MC.out _ ((Below.refl _ _).alloc (Nat.le_refl _) _)).mono ?_
    rintro e w3 ⟨rfl, hb3⟩
    have B3 := Asd.mk (((Below.refl w.heap.size w).alloc (Nat.le_refl _) _).trans (hb3.mono (by simp)))
    clear hb3
    go_wp2_with fail
    go_ret
    exact ⟨rfl, B3.out⟩


def intEnc (v : Int) : List Value := [.int .i64 v]
/-- Numbers, in memory. -/
structure Ints (base : Nat) (w : World) (A : Option Addr) (n c : Nat) (os : List Int) : Prop where
  rd : Rd base 3 w 1 A n c (os.flatMap intEnc)
  big : n ≤ 140737488355328
theorem Ints.below {base : Nat} {w w' : World} {A : Option Addr} {n c : Nat} {os : List Int} (h : Ints base w A n c os) (hb : Below w.heap.size w w') : Ints base w' A n c os := ⟨h.rd.below hb, h.big⟩
theorem Ints.grownR {base U : Nat} {w w' : World} {row : Option Nat} {A : Option Addr} {n c : Nat} {os : List Int} (h : Ints base w A n c os) (hg : w.grownBy w' row) (hr : ∀ j, row = some j → IsT w j U ∧ base ≤ j) (h0 : U ≠ 3) : Ints base w' A n c os := ⟨h.rd.grownR hg hr h0, h.big⟩
theorem Ints.len {base : Nat} {w : World} {A : Option Addr} {n c : Nat} {os : List Int} (h : Ints base w A n c os) : os.length = n := h.rd.count (enc := intEnc) (fun _ => rfl) (by omega)
theorem Ints.at_ {base : Nat} {w : World} {A : Option Addr} {n c : Nat} {os : List Int} (h : Ints base w A n c os) {i : Nat} (hi : i < n) : ∃ b off, A = some ⟨b, off, none⟩ ∧ b < w.heap.size ∧ ∃ hl : i < os.length, w.cell? ⟨b, off + i, none⟩ = some (.int .i64 os[i]) := by
  obtain ⟨b, off, e, hb, hl, hcs⟩ := h.rd.at_enc (enc := intEnc) (fun _ => rfl) (by omega) hi
  exact ⟨b, off, e, hb, hl, by simpa using hcs 0 _ rfl⟩

/-- A fault's own cells, at the world's end. -/
structure FB (w wr : World) : Prop where
  below : Below w.heap.size w wr
  blk : wr.heap[w.heap.size]? = some (.cells #[.int .i64 0, .int .i64 0] 49 (0, 0))
theorem FB.f0 {w wr : World} (h : FB w wr) : wr.cell? ⟨w.heap.size, 0, none⟩ = some (.int .i64 0) := (cell_of_row wr w.heap.size 0 _ _ _ h.blk).trans rfl
theorem FB.f1 {w wr : World} (h : FB w wr) : wr.cell? ⟨w.heap.size, 1, none⟩ = some (.int .i64 0) := (cell_of_row wr w.heap.size 1 _ _ _ h.blk).trans rfl
theorem FB.fr {w wr : World} (h : FB w wr) : ∀ i, wr.frozen? ⟨w.heap.size, i, none⟩ = false := fun i => by simp [World.frozen?, h.blk]
theorem FB.lt {w wr : World} (h : FB w wr) : w.heap.size < wr.heap.size := (Array.getElem?_eq_some_iff.1 h.blk).1
theorem FB.next {w wr w' : World} (h : FB w wr) (hb : Below wr.heap.size wr w') : FB w w' := ⟨h.below.trans (hb.mono h.below.size), (hb.block _ h.lt).trans h.blk⟩
theorem FB.start (w : World) : FB w (w.alloc (.cells #[.int .i64 0, .int .i64 0] 49)) := ⟨(Below.refl _ _).alloc (Nat.le_refl _) _, heap_alloc_new w _⟩
theorem FB.grown {w wr w' : World} {j : Nat} (h : FB w wr) (hg : wr.grownBy w' (some j)) (hj : w.heap.size < j) : FB w w' :=
  ⟨h.below.grown hg h.below.size (fun i hi => by injection hi with hi; omega), (hg.block _ h.lt (by simp; omega)).trans h.blk⟩

/-- A map of the call's own marks just these numbers. -/
def Marks (w : World) (b n : Nat) (l : List Int) : Prop := ∃ D : DataW Unit, w.ownsMap Tryz.prog 3 (plainElem Tryz.prog 4) b n D ∧ ∀ k, D.atKey (.int .i64 k) (.lit (.bool false)) = .lit (.bool (decide (k ∈ l)))
theorem intLaw : Keyed Tryz.prog 3 := int_keyed Tryz.underlying3
theorem zeroB (w : World) : (zeroValue 4).run Tryz.prog w = .ok (.bool false) w := by kernel_rfl
theorem wf_i64 {k : Int} (h0 : 0 ≤ k) (h1 : k ≤ 140737488355328) : (Lit.int .i64 k).wf = true := by simp [Lit.wf, IntKind.min, IntKind.max, IntKind.signed, IntKind.bits]; omega
theorem keyOf_i64 {k : Int} (h0 : 0 ≤ k) (h1 : k ≤ 140737488355328) : keyOf Tryz.prog 3 (.int .i64 k) = some (.int .i64 k) := keyOf_int_mk Tryz.underlying3 (wf_i64 h0 h1)
theorem plainElem_bool_inv {H : Type} {P : Program} {e : TypeId} (he : P.underlying e = some .bool) {v : Value} {z : DataW H × List MemPlace} (h : plainElem P e v = some z) : ∃ x, v = .bool x ∧ z = (.lit (.bool x), []) := by
  unfold plainElem at h
  rw [he] at h
  cases v <;> simp at h
  subst h
  exact ⟨_, rfl, rfl⟩
set_option maxRecDepth 100000 in
theorem Marks.look {w : World} {b n : Nat} {l : List Int} (h : Marks w b n l) {k : Int} (h0 : 0 ≤ k) (h1 : k ≤ 140737488355328) :
    (Instr.lookup 158 (.map (some b)) (.int .i64 k) false).run Tryz.prog w = .ok (.bool (decide (k ∈ l))) w := by
  obtain ⟨D, h, hR⟩ := h
  obtain ⟨v, ps, hrun, hv⟩ := h.lookup intLaw Tryz.underlying158 (zeroB _) (plainElem_bool Tryz.underlying4 false) (keyOf_i64 h0 h1)
  rw [hR k] at hv
  obtain ⟨x, rfl, hx⟩ := plainElem_bool_inv Tryz.underlying4 hv
  injection hx with hx _
  injection hx with hx
  injection hx with hx
  rw [hx]
  exact hrun
set_option maxRecDepth 100000 in
theorem Marks.put {w : World} {b n : Nat} {l : List Int} (h : Marks w b n l) {k : Int} (h0 : 0 ≤ k) (h1 : k ≤ 140737488355328) (hn : n < maxLen) :
    ∃ w', (Instr.mapUpdate 158 (.map (some b)) (.int .i64 k) (.bool true)).run Tryz.prog w = .ok () w' ∧ Marks w' b (n + 1) (l ++ [k]) ∧ w.grownBy w' (some b) := by
  obtain ⟨D, h, hR⟩ := h
  obtain ⟨w', hrun, ho, hg⟩ := h.update intLaw Tryz.underlying158 hn (keyOf_i64 h0 h1) (plainElem_bool Tryz.underlying4 true)
  refine ⟨w', hrun, ⟨_, ho, fun q => ?_⟩, hg⟩
  by_cases e : q = k
  · subst e
    rw [atKey_put_same h.isMap (by trivial)]
    simp
  · rw [atKey_put_other (by intro he; injection he with _ he; exact e he), hR]
    simp [e]
theorem Marks.kept {w w' : World} {b n : Nat} {l : List Int} {row : Option Nat} (h : Marks w b n l) (hg : w.grownBy w' row) (hne : some b ≠ row) : Marks w' b n l := by
  obtain ⟨D, h, hR⟩ := h
  exact ⟨D, h.kept hg hne, hR⟩
theorem Marks.below {w w' : World} {b n : Nat} {l : List Int} (h : Marks w b n l) (hb : Below w.heap.size w w') : Marks w' b n l := h.kept (gb_below hb none) (by simp)
theorem Marks.nil (w : World) : Marks (w.alloc (.map #[] 0)) w.heap.size 0 [] := ⟨_, World.ownsMap_made _ _ _ _, fun k => rfl⟩

/-- The i-th number of an order is none, or there already. -/
def ordBad (n : Nat) (os : List Int) (i : Nat) : Bool := match os[i]? with
  | some v => decide (v < 0) || decide ((n : Int) ≤ v) || decide (v ∈ os.take i)
  | none => false
theorem ordBad_at {n : Nat} {os : List Int} {i : Nat} (hi : i < os.length) : ordBad n os i = (decide (os[i] < 0) || decide ((n : Int) ≤ os[i]) || decide (os[i] ∈ os.take i)) := by
  unfold ordBad
  rw [List.getElem?_eq_getElem hi]
/-- A call that was told is left out. -/
def leftOut (hs : List CallR) (os : List Int) (i : Nat) : Bool := match hs[i]? with
  | some y => decide (0 < y.told) && !decide ((i : Int) ∈ os)
  | none => false
theorem leftOut_at {hs : List CallR} {os : List Int} {i : Nat} (hi : i < hs.length) : leftOut hs os i = (decide (0 < hs[i].told) && !decide ((i : Int) ∈ os)) := by
  unfold leftOut
  rw [List.getElem?_eq_getElem hi]
/-- What is wrong with a history and an order as such: the place, the error. -/
def formP (hs : List CallR) (os : List Int) : Int × Int :=
  if 200 < hs.length then (0, 2)
  else if hs.any (fun x => !x.ok) then (fidx (fun x => !x.ok) hs, 80)
  else match firstI (ordBad hs.length os) os.length with
    | some i => (i, 4)
    | none => match firstI (leftOut hs os) hs.length with
      | some i => (i, 4)
      | none => (0, 0)
section
variable {hs : List CallR} {os : List Int}
theorem formP_long (h : 200 < hs.length) : formP hs os = (0, 2) := by unfold formP; rw [if_pos h]
theorem formP_may (h : ¬ 200 < hs.length) (h2 : hs.any (fun x => !x.ok) = true) : formP hs os = (fidx (fun x => !x.ok) hs, 80) := by unfold formP; rw [if_neg h, if_pos h2]
theorem formP_ord (h : ¬ 200 < hs.length) (h2 : hs.any (fun x => !x.ok) = false) {i : Nat} (h3 : firstI (ordBad hs.length os) os.length = some i) : formP hs os = ((i : Int), 4) := by unfold formP; rw [if_neg h, if_neg (by rw [h2]; simp), h3]
theorem formP_out (h : ¬ 200 < hs.length) (h2 : hs.any (fun x => !x.ok) = false) (h3 : firstI (ordBad hs.length os) os.length = none) {i : Nat} (h4 : firstI (leftOut hs os) hs.length = some i) : formP hs os = ((i : Int), 4) := by
  unfold formP; rw [if_neg h, if_neg (by rw [h2]; simp), h3]; dsimp only; rw [h4]
theorem formP_ok (h : ¬ 200 < hs.length) (h2 : hs.any (fun x => !x.ok) = false) (h3 : firstI (ordBad hs.length os) os.length = none) (h4 : firstI (leftOut hs os) hs.length = none) : formP hs os = (0, 0) := by
  unfold formP; rw [if_neg h, if_neg (by rw [h2]; simp), h3]; dsimp only; rw [h4]
end

set_option maxHeartbeats 16000000 in
set_option maxRecDepth 100000 in
theorem form_calls {base : Nat} {w : World} {A B : Option Addr} {n c m d : Nat} {hs : List CallR} {os : List Int} (hh : Hist base w A n c hs) (ho : Ints base w B m d os) (hbs : base ≤ w.heap.size) :
    Calls Tryz.prog 60 #[.slice A n c, .slice B m d] w fun e w' => e = .returned (.agg #[.int .i64 (formP hs os).1, .int .i64 (formP hs os).2]) ∧ Below w.heap.size w w' := by
  have hn := hh.len
  have hm := ho.len
  have hnb := hh.big
  have hmb := ho.big
  generalize hf : formP hs os = f
  have P := Asd.mk hf
  have H := Asd.mk hh
  have O := Asd.mk ho
  have N := Asd.mk hn
  have M := Asd.mk hm
  have IX : Asd (∀ W, Below w.heap.size w W → Calls Tryz.prog 79 #[.slice A n c, .func (.func 80) #[] #[]] W fun e w' => e = .returned (.int .i64 (fidx (fun x => !x.ok) hs)) ∧ Below W.heap.size W w') :=
    ⟨fun W hW => IndexFunc_call (fun x => !x.ok) 80 (enters_of Tryz.func80 (by kernel_rfl) rfl) W A n c hs (hh.below hW).rd hnb (fun W2 x hW2 hx => form1_calls (((hh.below hW).below hW2).ins x hx))⟩
  clear hh ho hf
  have hmm := @run_makeMap Tryz.prog
  by_cases hl : 200 < n
  · have hl' : (200 : Int) < (n : Int) := by omega
    have Q := Asd.mk (P.out.symm.trans (formP_long (by omega)))
    clear hn hm hl
    go_enter Tryz.func60, Tryz.ntmps60
    go_wp2_with fail
    refine bodyPost_ret (v := .agg #[.int .i64 0, .int .i64 2]) (by simp [results, Tryz.results60, go_sem]) rfl ?_
    exact ⟨by rw [Q.out], by repeat (first | exact Below.refl _ _ | refine Below.setCell ?_ (by simp) _ | refine Below.alloc ?_ (by simp) _)⟩
  · have hl' : ¬ (200 : Int) < (n : Int) := by omega
    have hl2 : ¬ 200 < hs.length := by omega
    have L2 := Asd.mk hl2
    clear hl2
    cases hany : hs.any (fun x => !x.ok) with
    | true =>
      have Q := Asd.mk (P.out.symm.trans (formP_may L2.out hany))
      have h0 := fidx_any _ _ hany
      generalize fidx (fun x => !x.ok) hs = i at Q h0 IX
      clear hn hm hl hany
      go_enter Tryz.func60, Tryz.ntmps60
      go_wp2_with fail
      refine (IX.out _ ((Below.refl _ _).alloc (Nat.le_refl _) _)).mono ?_
      rintro e w1 ⟨rfl, hb1⟩
      have F1x := Asd.mk ((FB.start w).next hb1)
      clear hb1
      have f0 := F1x.out.f0
      have f1 := F1x.out.f1
      have ff := F1x.out.fr
      have fl := F1x.out.lt
      go_wp2_with fail
      refine bodyPost_ret (v := .agg #[.int .i64 i, .int .i64 80]) (by simp [results, Tryz.results60, go_sem, f0, f1, ff, fl]) rfl ?_
      exact ⟨by rw [Q.out], by repeat (first | exact F1x.out.below | refine Below.setCell ?_ (by simp) _ | refine Below.alloc ?_ (by simp; omega) _)⟩
    | false =>
      have hnone := fidx_none _ _ hany
      rw [hnone] at IX
      have ANY := Asd.mk hany
      clear hn hm hl hany hnone
      go_enter Tryz.func60, Tryz.ntmps60
      go_wp2_with fail
      refine (IX.out _ ((Below.refl _ _).alloc (Nat.le_refl _) _)).mono ?_
      rintro e w1 ⟨rfl, hb1⟩
      have F1x := Asd.mk ((FB.start w).next hb1)
      clear hb1 IX
      go_wp2_with fail
      have MK := Asd.mk (Marks.nil w1)
      have F2x := Asd.mk (F1x.out.next ((Below.refl _ _).alloc (Nat.le_refl _) (.map #[] 0)))
      have hmb1 : w.heap.size < w1.heap.size := F1x.out.lt
      generalize w1.heap.size = mb at MK hmb1 ⊢
      generalize (w1.alloc (.map #[] 0)) = w2 at MK F2x ⊢
      go_loopw [24] (fun s24 wr => ∃ k : Nat, s24 = .int .i64 k ∧ k ≤ m ∧ Asd (FB w wr) ∧ Asd (Marks wr mb k (os.take k)) ∧ Asd (∀ j, j < k → ordBad hs.length os j = false)) (fun s24 _ => m - (intOf s24).toNat)
      case atStart => exact ⟨0, rfl, Nat.zero_le _, F2x, MK, ⟨fun j hj => absurd hj (Nat.not_lt_zero _)⟩⟩
      case round =>
        obtain ⟨k, rfl, hkm, FW, MW, I⟩ := hrel
        by_cases hlt : k < m
        · obtain ⟨b, off, rfl, hbl, hil, c0⟩ := (O.out.below FW.out.below).at_ hlt
          have hcd : k < d := Nat.lt_of_lt_of_le hlt O.out.rd.cap
          have hob := ordBad_at (n := hs.length) hil
          have hbad : ordBad hs.length os k = true → f = (((k : Nat) : Int), 4) := fun e => P.out.symm.trans (formP_ord L2.out ANY.out (firstI_hit (by have := M.out; omega) e I.out))
          have hnx : ordBad hs.length os k = false → ∀ j, j < k + 1 → ordBad hs.length os j = false := fun e j hj => by
            rcases Nat.lt_or_ge j k with h1 | h1
            · exact I.out j h1
            · obtain rfl : j = k := by omega
              exact e
          have htk : os.take (k + 1) = os.take k ++ [os[k]] := List.take_succ_eq_append_getElem hil
          rw [hob] at hbad hnx
          generalize os[k] = v at c0 hbad hnx htk
          have BAD := Asd.mk hbad
          have NX := Asd.mk hnx
          have TK := Asd.mk htk
          clear hob hbad hnx htk
          by_cases h1 : v < 0
          · have Q := Asd.mk (BAD.out (by rw [N.out]; simp [h1]))
            have f0 := FW.out.f0
            have f1 := FW.out.f1
            have ff := FW.out.fr
            have fl := FW.out.lt
            go_wp2_with fail
            refine bodyPost_ret (v := .agg #[.int .i64 k, .int .i64 4]) (by simp [results, Tryz.results60, go_sem, f0, f1, ff, fl]) rfl ?_
            exact ⟨by rw [Q.out], by repeat (first | exact FW.out.below | refine Below.setCell ?_ (by simp) _ | refine Below.alloc ?_ (by simp; omega) _)⟩
          · by_cases h2 : (n : Int) ≤ v
            · have Q := Asd.mk (BAD.out (by rw [N.out]; simp [h2]))
              have f0 := FW.out.f0
              have f1 := FW.out.f1
              have ff := FW.out.fr
              have fl := FW.out.lt
              go_wp2_with fail
              refine bodyPost_ret (v := .agg #[.int .i64 k, .int .i64 4]) (by simp [results, Tryz.results60, go_sem, f0, f1, ff, fl]) rfl ?_
              exact ⟨by rw [Q.out], by repeat (first | exact FW.out.below | refine Below.setCell ?_ (by simp) _ | refine Below.alloc ?_ (by simp; omega) _)⟩
            · have LK := MW.out.look (k := v) (by omega) (by omega)
              cases hmem : decide (v ∈ os.take k) with
              | true =>
                rw [hmem] at LK
                have Q := Asd.mk (BAD.out (by rw [hmem]; simp))
                clear hmem
                have f0 := FW.out.f0
                have f1 := FW.out.f1
                have ff := FW.out.fr
                have fl := FW.out.lt
                go_wp2_with fail
                refine bodyPost_ret (v := .agg #[.int .i64 k, .int .i64 4]) (by simp [results, Tryz.results60, go_sem, f0, f1, ff, fl]) rfl ?_
                exact ⟨by rw [Q.out], by repeat (first | exact FW.out.below | refine Below.setCell ?_ (by simp) _ | refine Below.alloc ?_ (by simp; omega) _)⟩
              | false =>
                rw [hmem] at LK
                have Q := Asd.mk (NX.out (by rw [hmem, N.out]; simp [h1]; omega))
                clear hmem
                obtain ⟨w5, hup, hM5, hg5⟩ := MW.out.put (k := v) (by omega) (by omega) (by simp [maxLen]; omega)
                rw [← TK.out] at hM5
                have M5 := Asd.mk hM5
                have F5 := Asd.mk (FW.out.grown hg5 hmb1)
                clear hM5 hg5
                go_wp2_with fail
                go_roundw
                case measure => simp [intOf]; omega
                case rel => exact ⟨k + 1, by go_num, by omega, F5, M5, Q⟩
        · obtain rfl : k = m := by omega
          have hall : os.take k = os := List.take_of_length_le (by have := M.out; omega)
          rw [hall] at MW
          have OK3 : Asd (firstI (ordBad hs.length os) os.length = none) := ⟨firstI_none.2 (by rw [M.out]; exact I.out)⟩
          clear hall
          obtain ⟨wI, h⟩ : ∃ W, W = wr := ⟨_, rfl⟩
          subst h
          go_wp2_with fail
          go_loopw [49] (fun s49 wr => ∃ q : Nat, s49 = .int .i64 q ∧ q ≤ n ∧ Asd (FB w wr) ∧ Asd (Marks wr mb k os) ∧ Asd (∀ j, j < q → leftOut hs os j = false)) (fun s49 _ => n - (intOf s49).toNat)
          case atStart => exact ⟨0, rfl, Nat.zero_le _, FW, MW, ⟨fun j hj => absurd hj (Nat.not_lt_zero _)⟩⟩
          case round =>
            obtain ⟨q, rfl, hqn, FV, MV, J⟩ := hrel
            by_cases hlt2 : q < n
            · obtain ⟨b, off, rfl, hbl, hil, hcs⟩ := (H.out.rd.below FV.out.below).at_enc (enc := CallR.enc) (fun _ => rfl) (by omega) hlt2
              have hcc : q < c := Nat.lt_of_lt_of_le hlt2 H.out.rd.cap
              have hlo := leftOut_at (os := os) hil
              have hbad : leftOut hs os q = true → f = (((q : Nat) : Int), 4) := fun e => P.out.symm.trans (formP_out L2.out ANY.out OK3.out (firstI_hit (by have := N.out; omega) e J.out))
              have hnx : leftOut hs os q = false → ∀ j, j < q + 1 → leftOut hs os j = false := fun e j hj => by
                rcases Nat.lt_or_ge j q with h1 | h1
                · exact J.out j h1
                · obtain rfl : j = q := by omega
                  exact e
              rw [hlo] at hbad hnx
              generalize hs[q] = y at hcs hbad hnx
              have BAD := Asd.mk hbad
              have NX := Asd.mk hnx
              clear hlo hbad hnx
              have c0 := hcs 0 _ rfl
              have c1 := hcs 1 _ rfl
              have c2 := hcs 2 _ rfl
              have c3 := hcs 3 _ rfl
              have c4 := hcs 4 _ rfl
              have c5 := hcs 5 _ rfl
              have c6 := hcs 6 _ rfl
              have c7 := hcs 7 _ rfl
              have c8 := hcs 8 _ rfl
              have c9 := hcs 9 _ rfl
              rw [Nat.add_zero] at c0
              clear hcs
              have LK := fun o => (MV.out.below ((Below.refl wr.heap.size wr).alloc (Nat.le_refl _) o)).look (k := (q : Int)) (by omega) (by omega)
              have BA := Asd.mk (fun o => (Below.refl wr.heap.size wr).alloc (Nat.le_refl _) o)
              by_cases h1 : 0 < y.told
              · cases hmem : decide ((q : Int) ∈ os) with
                | true =>
                  rw [hmem] at LK
                  have Q := Asd.mk (NX.out (by rw [hmem]; simp))
                  clear hmem
                  go_wp2_with fail
                  go_roundw
                  case measure => simp [intOf]; omega
                  case rel => exact ⟨q + 1, by go_num, by omega, ⟨FV.out.next (BA.out _)⟩, ⟨MV.out.below (BA.out _)⟩, Q⟩
                | false =>
                  rw [hmem] at LK
                  have Q := Asd.mk (BAD.out (by rw [hmem]; simp [h1]))
                  clear hmem
                  have f0 := FV.out.f0
                  have f1 := FV.out.f1
                  have ff := FV.out.fr
                  have fl := FV.out.lt
                  go_wp2_with fail
                  refine bodyPost_ret (v := .agg #[.int .i64 q, .int .i64 4]) (by simp [results, Tryz.results60, go_sem, f0, f1, ff, fl]) rfl ?_
                  exact ⟨by rw [Q.out], by repeat (first | exact FV.out.below | refine Below.setCell ?_ (by simp) _ | refine Below.alloc ?_ (by simp; omega) _)⟩
              · have Q := Asd.mk (NX.out (by simp [h1]))
                go_wp2_with fail
                go_roundw
                case measure => simp [intOf]; omega
                case rel => exact ⟨q + 1, by go_num, by omega, ⟨FV.out.next (BA.out _)⟩, ⟨MV.out.below (BA.out _)⟩, Q⟩
            · obtain rfl : q = n := by omega
              have Q := Asd.mk (P.out.symm.trans (formP_ok L2.out ANY.out OK3.out (firstI_none.2 (by rw [N.out]; exact J.out))))
              have f0 := FV.out.f0
              have f1 := FV.out.f1
              have ff := FV.out.fr
              have fl := FV.out.lt
              go_wp2_with fail
              refine bodyPost_ret (v := .agg #[.int .i64 0, .int .i64 0]) (by simp [results, Tryz.results60, go_sem, f0, f1, ff, fl]) rfl ?_
              exact ⟨by rw [Q.out], by repeat (first | exact FV.out.below | refine Below.setCell ?_ (by simp) _ | refine Below.alloc ?_ (by simp; omega) _)⟩

end Go.Proofs.YtallnibjmffahaaGreatDoor

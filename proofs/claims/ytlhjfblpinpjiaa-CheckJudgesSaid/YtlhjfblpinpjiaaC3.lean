/- Told just so; the first place. -/
import Derived.Test.YtlhjfblpinpjiaaC2
set_option linter.unusedVariables false
set_option linter.unusedSimpArgs false
namespace Go.Proofs.Ytlhjfblpinpjiaa
open Go.RowKit

/-- The first number below n that p holds of. -/
def firstI (p : Nat → Bool) (n : Nat) : Option Nat := (List.range n).find? p
theorem firstI_hit {p : Nat → Bool} {n k : Nat} (hk : k < n) (hp : p k = true) (hb : ∀ j, j < k → p j = false) : firstI p n = some k := by
  unfold firstI
  rw [List.find?_range_eq_some]
  exact ⟨hp, by simpa using hk, fun j hj => by rw [hb j hj]; rfl⟩
theorem firstI_none {p : Nat → Bool} {n : Nat} : firstI p n = none ↔ ∀ j, j < n → p j = false := by
  unfold firstI
  rw [List.find?_range_eq_none]
  exact ⟨fun h j hj => by simpa using h j hj, fun h j hj => by rw [h j hj]; rfl⟩
theorem firstI_some {p : Nat → Bool} {n k : Nat} : firstI p n = some k ↔ k < n ∧ p k = true ∧ ∀ j, j < k → p j = false := by
  constructor
  · intro h
    unfold firstI at h
    rw [List.find?_range_eq_some] at h
    exact ⟨by simpa using h.2.1, h.1, fun j hj => by simpa using h.2.2 j hj⟩
  · rintro ⟨h1, h2, h3⟩
    exact firstI_hit h1 h2 h3

/-- What a table's answer is, against what a call was told. -/
def CallR.said (x : CallR) (rs : List Res) (fa fc : Int) : Bool := decide (fa = x.at_) && decide (fc = x.code) && decide (rs = x.res)

set_option maxHeartbeats 4000000 in
set_option maxRecDepth 100000 in
theorem told_calls {base : Nat} {w : World} {x : CallR} (h : CallIn base w x) {A1 : Option Addr} {n1 c1 : Nat} {rr1 : List RRes} {rs1 : List Res} (hl : Rd base 47 w 4 A1 n1 c1 (resCells rr1)) (h1 : All2 (RIn base w) rr1 rs1) (hbig : n1 ≤ 140737488355328) (fa fc : Int) :
    Calls Try.prog 47 #[.agg x.enc.toArray, .slice A1 n1 c1, .agg #[.int .i64 fa, .int .i64 fc]] w fun e w' => e = .returned (.bool (x.said rs1 fa fc)) ∧ Below w.heap.size w w' := by
  have EC : Asd (∀ W, Below w.heap.size w W → Calls Try.prog 64 #[.slice A1 n1 c1, .slice x.rA x.rn x.rc, .func (.func 65) #[] #[]] W fun e w' => e = .returned (.bool (decide (rs1 = x.res))) ∧ Below W.heap.size W w') :=
    ⟨fun W hW => EqualFunc_calls (hl.below hW) (h.rdr.below hW) (RIns.below h1 hW) (RIns.below h.rins hW) hbig h.rbig⟩
  clear h hl h1
  have hres : x.said rs1 fa fc = (decide (fa = x.at_) && decide (fc = x.code) && decide (rs1 = x.res)) := rfl
  generalize x.said rs1 fa fc = r at *
  generalize decide (rs1 = x.res) = q at *
  obtain ⟨asked, told, cl, sq, oA, on, oc, pc, ps, rA, rn, rc, at_, code, ops, res, rr⟩ := x
  simp only at EC hres
  unfold CallR.enc
  have R := Asd.mk hres
  clear hres
  have hB : ∀ o1 o2, Below w.heap.size w ((w.alloc o1).alloc o2) := fun o1 o2 => ((Below.refl _ _).alloc (Nat.le_refl _) _).alloc (by simp) _
  have BB := Asd.mk hB
  clear hB
  by_cases e1 : fa = at_
  · subst e1
    by_cases e2 : fc = code
    · subst e2
      cases q
      all_goals
        go_enter Try.func47, Try.ntmps47
        go_wp2_with fail
        refine (EC.out _ (BB.out _ _)).mono ?_
        rintro e w3 ⟨rfl, hb3⟩
        have B3 := Asd.mk ((BB.out _ _).trans (hb3.mono (BB.out _ _).size))
        clear hb3
        go_wp2_with fail
        go_ret
        exact ⟨by rw [R.out]; simp, B3.out⟩
    · have e2b : (fc == code) = false := by simpa using e2
      go_enter Try.func47, Try.ntmps47
      go_wp2_with fail
      go_ret
      exact ⟨by rw [R.out]; simp [e2], BB.out _ _⟩
  · have e1b : (fa == at_) = false := by simpa using e1
    go_enter Try.func47, Try.ntmps47
    go_wp2_with fail
    go_ret
    exact ⟨by rw [R.out]; simp [e1], BB.out _ _⟩

set_option maxHeartbeats 1000000 in
/-- slices.IndexFunc over calls. -/
theorem IndexFunc_call {base : Nat} {T : TypeId} (p : CallR → Bool) (g : Nat) (eg : ∀ args w, (callFunc g args).run Try.prog w = .ok (.enter g args) w) (w : World)
    (A : Option Addr) (n c : Nat) (l : List CallR) (hr : Rd base T w 10 A n c (l.flatMap CallR.enc)) (hbig : n ≤ 140737488355328)
    (hp : ∀ (W : World) (x : CallR), Below w.heap.size w W → x ∈ l → Calls Try.prog g #[.agg x.enc.toArray] W fun e w' => e = .returned (.bool (p x)) ∧ Below W.heap.size W w') :
    Calls Try.prog 46 #[.slice A n c, .func (.func g) #[] #[]] w fun e w' => e = .returned (.int .i64 (fidx p l)) ∧ Below w.heap.size w w' := by
  have hn := hr.count (enc := CallR.enc) (fun _ => rfl) (by omega)
  have R := Asd.mk hr
  have C := Asd.mk hp
  have N := Asd.mk hn
  clear hr hp hn
  go_enter Try.func46, Try.ntmps46
  go_wp2
  go_loopw [5, 8] (fun _ s8 wr => ∃ k : Nat, s8 = .int .i64 k ∧ k ≤ n ∧ Asd (Below w.heap.size w wr) ∧ Asd (∀ j (hj : j < l.length), j < k → p l[j] = false)) (fun _ s8 _ => n - (intOf s8).toNat)
  case atStart => exact ⟨0, rfl, Nat.zero_le _, ⟨Below.refl _ _⟩, ⟨fun j _ h => absurd h (Nat.not_lt_zero _)⟩⟩
  case round =>
    obtain ⟨k, rfl, hkn, BW, I⟩ := hrel
    by_cases hlt : k < n
    · obtain ⟨b, off, rfl, hb, hl, hcs⟩ := (R.out.below BW.out).at_enc (enc := CallR.enc) (fun _ => rfl) (by omega) hlt
      have hc := C.out wr l[k] BW.out (List.getElem_mem hl)
      generalize hy : l[k] = y at hcs hc
      have c0 := hcs 0 _ rfl
      have c1 := hcs 1 _ rfl
      have c2 := hcs 2 _ rfl
      have c3 := hcs 3 _ rfl
      have c4 := hcs 4 _ rfl
      have c5 := hcs 5 _ rfl
      have c6 := hcs 6 _ rfl
      have c7 := hcs 7 _ rfl
      have c8 := hcs 8 _ rfl
      have c9 := hcs 9 _ rfl
      rw [Nat.add_zero] at c0
      unfold CallR.enc at hc
      clear hcs
      have Y := Asd.mk hy
      clear hy
      cases hq : p y with
      | true =>
        rw [hq] at hc
        have Q := Asd.mk hq
        clear hq
        go_wp2_with fail
        refine hc.mono ?_
        rintro e w' ⟨rfl, hb'⟩
        go_wp2_with fail
        go_ret
        exact ⟨by rw [fidx_hit p l k hl (by rw [Y.out]; exact Q.out) I.out]; rfl, BW.out.trans (hb'.mono BW.out.size)⟩
      | false =>
        rw [hq] at hc
        have Q := Asd.mk hq
        clear hq
        go_wp2_with fail
        refine hc.mono ?_
        rintro e w' ⟨rfl, hb'⟩
        go_wp2_with fail
        go_roundw
        case measure => simp [intOf]; omega
        case rel =>
          refine ⟨k + 1, by go_num, by omega, ⟨BW.out.trans (hb'.mono BW.out.size)⟩, ⟨fun j hj hjk => ?_⟩⟩
          rcases Nat.lt_or_ge j k with h1 | h1
          · exact I.out j hj h1
          · obtain rfl : j = k := by omega
            rw [Y.out]; exact Q.out
    · go_wp2_with fail
      go_ret
      exact ⟨by rw [fidx_miss p l fun j hj => I.out j hj (by have := N.out; omega)]; rfl, BW.out⟩


set_option maxHeartbeats 4000000 in
theorem form1_calls {base : Nat} {w : World} {x : CallR} (h : CallIn base w x) :
    Calls Try.prog 70 #[.agg x.enc.toArray] w fun e w' => e = .returned (.bool (!x.ok)) ∧ Below w.heap.size w w' := by
  have MC : Asd (∀ W, Below w.heap.size w W → Calls Try.prog 27 #[.agg x.enc.toArray] W fun e w' => e = .returned (.bool x.ok) ∧ Below W.heap.size W w') := ⟨fun W hW => may_calls (h.below hW)⟩
  clear h
  generalize x.ok = q at *
  unfold CallR.enc at *
  cases q
  all_goals
    go_enter Try.func70, Try.ntmps70
    go_wp2_with fail
    refine (MC.out _ ((Below.refl _ _).alloc (Nat.le_refl _) _)).mono ?_
    rintro e w3 ⟨rfl, hb3⟩
    have B3 := Asd.mk (((Below.refl w.heap.size w).alloc (Nat.le_refl _) _).trans (hb3.mono (by simp)))
    clear hb3
    go_wp2_with fail
    go_ret
    exact ⟨rfl, B3.out⟩

end Go.Proofs.Ytlhjfblpinpjiaa

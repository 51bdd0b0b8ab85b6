/- Take's looks at its rows: each may be; they stand by keys. -/
import Derived.Test.YtehfaeafefkngaaTs
import Derived.BigQuiet
set_option linter.unusedVariables false
set_option linter.unusedSimpArgs false
namespace Go.Proofs.Ytehfaeafefkngaa
open Go.RowKit

set_option maxHeartbeats 1000000 in
/-- slices.IndexFunc over rows. -/
theorem IndexFunc_row {base : Nat} {T : TypeId} (p : Rw → Bool) (g : Nat) (eg : ∀ args w, (callFunc g args).run Try.prog w = .ok (.enter g args) w) (w : World)
    (A : Option Addr) (n c : Nat) (l : List Rw) (hr : Rd base T w 3 A n c (rowCells l)) (hbig : n ≤ 140737488355328)
    (hp : ∀ (W : World) (x : Rw), x ∈ l → Calls Try.prog g #[.agg x.enc.toArray] W fun e w' => e = .returned (.bool (p x)) ∧ Below W.heap.size W w') :
    Calls Try.prog 54 #[.slice A n c, .func (.func g) #[] #[]] w fun e w' => e = .returned (.int .i64 (fidx p l)) ∧ Below w.heap.size w w' := by
  have hn := hr.count (enc := Rw.enc) (fun _ => rfl) (by omega)
  have R := Asd.mk hr
  have C := Asd.mk hp
  have N := Asd.mk hn
  clear hr hp hn
  go_enter Try.func54, Try.ntmps54
  go_wp2
  go_loopw [5, 8] (fun _ s8 wr => ∃ k : Nat, s8 = .int .i64 k ∧ k ≤ n ∧ Asd (Below w.heap.size w wr) ∧ Asd (∀ j (hj : j < l.length), j < k → p l[j] = false)) (fun _ s8 _ => n - (intOf s8).toNat)
  case atStart => exact ⟨0, rfl, Nat.zero_le _, ⟨Below.refl _ _⟩, ⟨fun j _ h => absurd h (Nat.not_lt_zero _)⟩⟩
  case round =>
    obtain ⟨k, rfl, hkn, BW, I⟩ := hrel
    by_cases hlt : k < n
    · obtain ⟨b, off, rfl, hb, hl, hcs⟩ := (R.out.below BW.out).at_enc (enc := Rw.enc) (fun _ => rfl) (by omega) hlt
      have hc := C.out wr l[k] (List.getElem_mem hl)
      generalize hy : l[k] = y at hcs hc
      have c0 := hcs 0 _ rfl
      have c1 := hcs 1 _ rfl
      have c2 := hcs 2 _ rfl
      rw [Nat.add_zero] at c0
      unfold Rw.enc at hc
      clear hcs
      have Y := Asd.mk hy
      clear hy
      cases hq : p y with
      | true =>
        rw [hq] at hc
        have Q := Asd.mk hq
        clear hq
        go_wp2_with fail
        refine hc.mono ?_
        rintro e w' ⟨rfl, hb'⟩
        go_wp2_with fail
        go_ret
        exact ⟨by rw [fidx_hit p l k hl (by rw [Y.out]; exact Q.out) I.out]; rfl, BW.out.trans (hb'.mono BW.out.size)⟩
      | false =>
        rw [hq] at hc
        have Q := Asd.mk hq
        clear hq
        go_wp2_with fail
        refine hc.mono ?_
        rintro e w' ⟨rfl, hb'⟩
        go_wp2_with fail
        go_roundw
        case measure => simp [intOf]; omega
        case rel =>
          refine ⟨k + 1, by go_num, by omega, ⟨BW.out.trans (hb'.mono BW.out.size)⟩, ⟨fun j hj hjk => ?_⟩⟩
          rcases Nat.lt_or_ge j k with h1 | h1
          · exact I.out j hj h1
          · obtain rfl : j = k := by omega
            rw [Y.out]; exact Q.out
    · go_wp2_with fail
      go_ret
      exact ⟨by rw [fidx_miss p l fun j hj => I.out j hj (by have := N.out; omega)]; rfl, BW.out⟩


theorem Take1_calls (r : Rw) (w : World) :
    Calls Try.prog 36 #[.agg r.enc.toArray] w fun e w' => e = .returned (.bool (!rowOk r)) ∧ Below w.heap.size w w' := by
  have hc := fun W => row_calls r W
  have C := Asd.mk hc
  clear hc
  unfold Rw.enc at *
  go_enter Try.func36, Try.ntmps36
  go_wp2_with fail
  refine (C.out _).mono ?_
  rintro e w' ⟨rfl, hb⟩
  go_wp2_with fail
  go_ret
  exact ⟨rfl, (((Below.refl _ _).alloc (Nat.le_refl _) _).trans (hb.mono (by simp)))⟩

theorem ContainsFunc_row {base : Nat} {T : TypeId} (w : World) (A : Option Addr) (n c : Nat) (l : List Rw) (hr : Rd base T w 3 A n c (rowCells l)) (hbig : n ≤ 140737488355328) :
    Calls Try.prog 35 #[.slice A n c, .func (.func 36) #[] #[]] w fun e w' => e = .returned (.bool (l.any fun r => !rowOk r)) ∧ Below w.heap.size w w' := by
  have hi := IndexFunc_row (base := base) (T := T) (fun r => !rowOk r) 36 (enters_of Try.func36 (by kernel_rfl) rfl) w A n c l hr hbig (fun W r _ => Take1_calls r W)
  have hv : (0 ≤ fidx (fun r => !rowOk r) l) ↔ (l.any fun r => !rowOk r) = true := by
    unfold fidx
    cases h : l.any fun r => !rowOk r with
    | true => simp
    | false => simp
  cases h : l.any fun r => !rowOk r with
  | true =>
    have h0 := hv.2 h
    have I := Asd.mk hi
    clear hi hv h
    generalize fidx (fun r => !rowOk r) l = v at *
    go_enter Try.func35, Try.ntmps35
    go_wp2_with fail
    refine I.out.mono ?_
    rintro e w' ⟨rfl, hb⟩
    go_wp2_with fail
    go_ret
    exact ⟨rfl, hb⟩
  | false =>
    have h0 : ¬ 0 ≤ fidx (fun r => !rowOk r) l := fun e => by rw [hv.1 e] at h; cases h
    have I := Asd.mk hi
    clear hi hv h
    generalize fidx (fun r => !rowOk r) l = v at *
    go_enter Try.func35, Try.ntmps35
    go_wp2_with fail
    refine I.out.mono ?_
    rintro e w' ⟨rfl, hb⟩
    go_wp2_with fail
    go_ret
    exact ⟨by rw [decide_eq_false (by omega)]; rfl, hb⟩

/-- cmp.Or(x, -1). -/
theorem Or_calls (x : Int) (w : World) (b : Nat) (h0 : w.cell? ⟨b, 0, none⟩ = some (.int .i64 x)) (h1 : w.cell? ⟨b, 1, none⟩ = some (.int .i64 (-1))) :
    Calls Try.prog 40 #[.slice (some ⟨b, 0, none⟩) 2 2] w fun e w' => e = .returned (.int .i64 (if x = 0 then -1 else x)) ∧ Below w.heap.size w w' := by
  by_cases hx : x = 0
  · subst hx
    rw [if_pos rfl]
    go_enter Try.func40, Try.ntmps40
    go_wp2_with fail
    go_loopw [5, 8] (fun _ s8 wr => ∃ k : Nat, s8 = .int .i64 k ∧ k ≤ 1 ∧ Asd (wr = w)) (fun _ s8 _ => 2 - (intOf s8).toNat)
    case atStart => exact ⟨0, rfl, by omega, ⟨by simp⟩⟩
    case round =>
      obtain ⟨k, rfl, hk, hwr⟩ := hrel
      obtain rfl := hwr.out
      by_cases hk0 : k = 0
      · subst hk0
        go_wp2_with fail
        go_roundw
        case measure => simp [intOf]
        case rel => exact ⟨1, by go_num, by omega, ⟨by simp⟩⟩
      · obtain rfl : k = 1 := by omega
        go_wp2_with fail
        go_ret
        exact ⟨rfl, Below.refl _ _⟩
  · rw [if_neg hx]
    have hx' : (x == 0) = false := by simpa using hx
    have hx2 : (x != 0) = true := by simpa using hx
    go_enter Try.func40, Try.ntmps40
    go_wp2_with fail
    go_loopw [5, 8] (fun _ s8 wr => s8 = .int .i64 0 ∧ Asd (wr = w)) (fun _ s8 _ => 2 - (intOf s8).toNat)
    case atStart => exact ⟨rfl, ⟨by simp⟩⟩
    case round =>
      obtain ⟨rfl, hwr⟩ := hrel
      obtain rfl := hwr.out
      go_wp2_with fail
      go_ret
      exact ⟨rfl, Below.refl _ _⟩

def cmpP (a b : Rw) : Int := if Lib.compareBytes a.key.data.toList b.key.data.toList = 0 then -1 else Lib.compareBytes a.key.data.toList b.key.data.toList
theorem cmpP_neg (a b : Rw) : cmpP a b < 0 ↔ ¬ klt b.key a.key := by
  unfold cmpP
  have h1 := cmp_gt a.key b.key
  split
  · rename_i h
    rw [← h1, h]
    simp
  · rename_i h
    rw [← h1]
    omega
theorem two_cells (w : World) (x : Int) : (w.alloc (.cells #[.int .i64 x, .int .i64 (-1)] 3)).cell? ⟨w.heap.size, 0, none⟩ = some (.int .i64 x) ∧ (w.alloc (.cells #[.int .i64 x, .int .i64 (-1)] 3)).cell? ⟨w.heap.size, 1, none⟩ = some (.int .i64 (-1)) :=
  ⟨(cell_of_row _ _ 0 _ _ _ (heap_alloc_new w _)).trans rfl, (cell_of_row _ _ 1 _ _ _ (heap_alloc_new w _)).trans rfl⟩
set_option maxHeartbeats 1000000 in
theorem Take2_calls (a b : Rw) (w : World) :
    Calls Try.prog 39 #[.agg a.enc.toArray, .agg b.enc.toArray] w fun e w' => e = .returned (.int .i64 (cmpP a b)) ∧ Below w.heap.size w w' := by
  unfold cmpP
  unfold Rw.enc
  have hc : ∀ W, Calls Try.prog 41 #[.string a.key, .string b.key] W fun e w' => e = .returned (.int .i64 (Lib.compareBytes a.key.data.toList b.key.data.toList)) ∧ w' = W := fun W => (strings_Compare _ _ _).mono (fun e w' ⟨h1, h2⟩ => ⟨h1, h2.symm⟩)
  have C := Asd.mk hc
  clear hc
  generalize Lib.compareBytes a.key.data.toList b.key.data.toList = v at *
  have hor := fun W b h0 h1 => Or_calls v W b h0 h1
  generalize (if v = 0 then (-1 : Int) else v) = u at *
  have OR := Asd.mk hor
  clear hor
  go_enter Try.func39, Try.ntmps39
  go_wp2_with (go_at_call 41; refine (C.out _).mono ?_; rintro e w' ⟨rfl, rfl⟩)
  have hb : Below w.heap.size w ((w.alloc (.cells #[.string a.key, .int .i64 a.stamp, .string a.val] 53)).alloc (.cells #[.string b.key, .int .i64 b.stamp, .string b.val] 53)) := ((Below.refl _ _).alloc (Nat.le_refl _) _).alloc (by simp) _
  have hsz : w.heap.size + 1 + 1 = ((w.alloc (.cells #[.string a.key, .int .i64 a.stamp, .string a.val] 53)).alloc (.cells #[.string b.key, .int .i64 b.stamp, .string b.val] 53)).heap.size := by simp
  rw [hsz]
  have B := Asd.mk hb
  clear hb hsz
  generalize ((w.alloc (.cells #[.string a.key, .int .i64 a.stamp, .string a.val] 53)).alloc (.cells #[.string b.key, .int .i64 b.stamp, .string b.val] 53)) = w1 at *
  refine (OR.out _ _ (two_cells w1 v).1 (two_cells w1 v).2).mono ?_
  rintro e w2 ⟨rfl, hb2⟩
  have B2 := Asd.mk ((B.out.alloc B.out.size _).trans (hb2.mono (by have := B.out.size; simp; omega)))
  clear hb2
  go_wp2_with fail
  go_ret
  exact ⟨rfl, B2.out⟩

theorem sorted_adj : ∀ {l : List Rw}, (∀ t (h : t + 1 < l.length), klt l[t].key l[t + 1].key) → Sorted l
  | [], _ => List.Pairwise.nil
  | [a], _ => List.pairwise_singleton _ _
  | a :: b :: l, h => by
    have ih : Sorted (b :: l) := sorted_adj fun t ht => h (t + 1) (by simp at ht ⊢; omega)
    refine List.pairwise_cons.2 ⟨fun q hq => ?_, ih⟩
    have hab : klt a.key b.key := h 0 (by simp)
    rcases List.mem_cons.1 hq with rfl | hq
    · exact hab
    · exact klt_trans hab ((List.pairwise_cons.1 ih).1 q hq)
set_option maxHeartbeats 2000000 in
/-- slices.IsSortedFunc over rows: they stand strictly by their keys. -/
theorem IsSorted_row {base : Nat} {T : TypeId} (w : World) (A : Option Addr) (n c : Nat) (l : List Rw) (hr : Rd base T w 3 A n c (rowCells l)) (hbig : n ≤ 140737488355328) :
    Calls Try.prog 38 #[.slice A n c, .func (.func 39) #[] #[]] w fun e w' => ∃ b, e = .returned (.bool b) ∧ (b = true ↔ Sorted l) ∧ Below w.heap.size w w' := by
  have hn := hr.count (enc := Rw.enc) (fun _ => rfl) (by omega)
  have hen := enters_of Try.func39 (by kernel_rfl) rfl
  have R := Asd.mk hr
  have N := Asd.mk hn
  clear hr hn
  go_enter Try.func38, Try.ntmps38
  go_wp2
  go_loopw [5] (fun s5 wr => ∃ k : Nat, s5 = .int .i64 ((k : Int) - 1) ∧ k ≤ n ∧ Asd (Below w.heap.size w wr) ∧ Asd (∀ t (h : t + 1 < l.length), k ≤ t + 1 → klt l[t].key l[t + 1].key)) (fun s5 _ => (intOf s5 + 1).toNat)
  case atStart => exact ⟨n, rfl, by omega, ⟨Below.refl _ _⟩, ⟨fun t h1 h2 => by have := N.out; omega⟩⟩
  case round =>
    obtain ⟨k, rfl, hkn, BW, I⟩ := hrel
    by_cases hk : 2 ≤ k
    · obtain ⟨j, rfl⟩ : ∃ j, k = j + 2 := ⟨k - 2, by omega⟩
      have hi : ((j + 2 : Nat) : Int) - 1 = ((j + 1 : Nat) : Int) := by omega
      rw [hi]
      obtain ⟨b, off, rfl, hb, hl1, hcs⟩ := (R.out.below BW.out).at_enc (enc := Rw.enc) (fun _ => rfl) (by omega) (i := j + 1) (by omega)
      obtain ⟨b', off', hA', hb', hl0, hds⟩ := (R.out.below BW.out).at_enc (enc := Rw.enc) (fun _ => rfl) (by omega) (i := j) (by omega)
      cases hA'
      have hw1 : wrap64 (((j : Int) + 1) - 1) = (j : Int) := by unfold wrap64; omega
      have hjn : j + 1 < n := by omega
      have hw0 : wrap64 (j : Int) = (j : Int) := by unfold wrap64; omega
      have hw2 : IntKind.i64.wrap (j : Int) = (j : Int) := IntWalk.i64_in _ (by omega)
      have hjn0 : j < n := by omega
      have hbd1 : (0 : Int) ≤ (j : Int) + 1 ∧ (j : Int) + 1 < (n : Int) := by omega
      have hbd2 : (0 : Int) ≤ (j : Int) ∧ (j : Int) < (n : Int) := by omega
      have hcp := cmpP_neg l[j + 1] l[j]
      generalize hx : l[j + 1] = x at hcs hcp
      generalize hy : l[j] = y at hds hcp
      have c0 : wr.cell? ⟨b, off + (j + 1) * 3, none⟩ = some (.string x.key) := hcs 0 _ rfl
      have c1 : wr.cell? ⟨b, off + (j + 1) * 3 + 1, none⟩ = some (.int .i64 x.stamp) := hcs 1 _ rfl
      have c2 : wr.cell? ⟨b, off + (j + 1) * 3 + 2, none⟩ = some (.string x.val) := hcs 2 _ rfl
      have d0 : wr.cell? ⟨b, off + j * 3, none⟩ = some (.string y.key) := hds 0 _ rfl
      have d1 : wr.cell? ⟨b, off + j * 3 + 1, none⟩ = some (.int .i64 y.stamp) := hds 1 _ rfl
      have d2 : wr.cell? ⟨b, off + j * 3 + 2, none⟩ = some (.string y.val) := hds 2 _ rfl
      have hc := fun W => Take2_calls x y W
      unfold Rw.enc at hc
      have C := Asd.mk hc
      have HX := Asd.mk hx
      have HY := Asd.mk hy
      clear hcs hds hc hx hy hi
      by_cases hlt : klt y.key x.key
      · have hneg : ¬ cmpP x y < 0 := fun h => hcp.1 h hlt
        have LT := Asd.mk hlt
        clear hcp hlt
        generalize cmpP x y = v at *
        have hd : decide (v < 0) = false := decide_eq_false hneg
        go_wp2_with fail
        go_region_with (go_at_call 39; refine (C.out _).mono ?_; rintro e w2 ⟨rfl, hb2⟩)
        all_goals
          have B2 := Asd.mk ((BW.out.drew).trans (hb2.mono BW.out.size))
          clear hb2
          go_wp2_with fail
          go_roundw
          case measure => simp [intOf]; omega
          case rel =>
            refine ⟨j + 1, by go_num, by omega, B2, ⟨fun t h1 h2 => ?_⟩⟩
            rcases Nat.lt_or_ge t (j + 1) with h3 | h3
            · obtain rfl : t = j := by omega
              rw [HX.out, HY.out]
              exact LT.out
            · exact I.out t h1 (by omega)
      · have hneg : cmpP x y < 0 := hcp.2 hlt
        have LT := Asd.mk hlt
        clear hcp hlt
        generalize cmpP x y = v at *
        have hd : decide (v < 0) = true := decide_eq_true hneg
        go_wp2_with fail
        go_region_with (go_at_call 39; refine (C.out _).mono ?_; rintro e w2 ⟨rfl, hb2⟩)
        all_goals
          have B2 := Asd.mk ((BW.out.drew).trans (hb2.mono BW.out.size))
          clear hb2
          go_wp2_with fail
          go_ret
          refine ⟨false, rfl, ⟨fun h => (by cases h), fun h => absurd ?_ LT.out⟩, B2.out⟩
          have := List.pairwise_iff_getElem.1 h j (j + 1) hl0 hl1 (by omega)
          rw [HX.out, HY.out] at this
          exact this
    · go_wp2_with fail
      go_ret
      exact ⟨true, rfl, ⟨fun _ => sorted_adj fun t h => I.out t h (by omega), fun _ => rfl⟩, BW.out⟩
end Go.Proofs.Ytehfaeafefkngaa

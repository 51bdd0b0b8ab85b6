/- The search for an order, depth first: plain. The search's helpers: numbers cloned, found; a beginning that is wrong. The search's helpers: a beginning that is wrong. -/
import Derived.Test.YtlhjfblpinpjiaaC12
set_option linter.unusedVariables false
set_option linter.unusedSimpArgs false
namespace Go.Proofs.Ytlhjfblpinpjiaa
open Go.RowKit

/-- The first of f 0, f 1, .. that is something. -/
def tryI {β : Type} (f : Nat → Option β) (n : Nat) : Option β := (List.range n).findSome? f
theorem tryI_succ {β : Type} (f : Nat → Option β) (n : Nat) : tryI f (n + 1) = (tryI f n).or (f n) := by
  unfold tryI
  rw [List.range_succ, List.findSome?_append]
  simp
theorem tryI_none {β : Type} {f : Nat → Option β} : ∀ {n : Nat}, (∀ j, j < n → f j = none) → tryI f n = none := by
  intro n
  induction n with
  | zero => intro _; rfl
  | succ n ih =>
    intro h
    rw [tryI_succ, ih (fun j hj => h j (by omega)), h n (by omega)]
    rfl
theorem tryI_hit {β : Type} {f : Nat → Option β} {r : β} {k : Nat} : ∀ {n : Nat}, k < n → f k = some r → (∀ j, j < k → f j = none) → tryI f n = some r := by
  intro n
  induction n with
  | zero => intro h; omega
  | succ n ih =>
    intro hk h1 h2
    rw [tryI_succ]
    rcases Nat.lt_or_ge k n with h | h
    · rw [ih h h1 h2]; rfl
    · obtain rfl : k = n := by omega
      rw [tryI_none h2, h1]; rfl
theorem tryI_congr {β : Type} {f g : Nat → Option β} : ∀ {n : Nat}, (∀ j, j < n → f j = g j) → tryI f n = tryI g n := by
  intro n
  induction n with
  | zero => intro _; rfl
  | succ n ih =>
    intro h
    rw [tryI_succ, tryI_succ, ih (fun j hj => h j (by omega)), h n (by omega)]

/-- A beginning that is wrong: told otherwise, or against time. -/
def wrongP (hs : List CallR) (os : List Int) : Bool := (firstI (badAt (callsOf hs os)) (callsOf hs os).length).isSome || decide (0 ≤ againstP (callsOf hs os))
/-- The search of the program: what begins wrong is passed over. -/
def findC (hs : List CallR) : Nat → List Int → Option (List Int)
  | 0, os => if judgeP hs os = (0, 0) then some os else none
  | d + 1, os => if judgeP hs os = (0, 0) then some os else tryI (fun i => if (i : Int) ∈ os then none else if wrongP hs (os ++ [(i : Int)]) = true then none else findC hs d (os ++ [(i : Int)])) hs.length
/-- The document's. -/
def findR (hs : List CallR) : Nat → List Int → Option (List Int)
  | 0, os => if judgeP hs os = (0, 0) then some os else none
  | d + 1, os => if judgeP hs os = (0, 0) then some os else tryI (fun i => if (i : Int) ∈ os then none else findR hs d (os ++ [(i : Int)])) hs.length
/-- One number tried. -/
def stepC (hs : List CallR) (d : Nat) (os : List Int) (i : Nat) : Option (List Int) :=
  if (i : Int) ∈ os then none else if wrongP hs (os ++ [(i : Int)]) = true then none else match d with
    | 0 => none
    | d' + 1 => findC hs d' (os ++ [(i : Int)])
def stepR_ (hs : List CallR) (d : Nat) (os : List Int) (i : Nat) : Option (List Int) :=
  if (i : Int) ∈ os then none else match d with
    | 0 => none
    | d' + 1 => findR hs d' (os ++ [(i : Int)])
theorem findC_yes {hs : List CallR} {os : List Int} (d : Nat) (h : judgeP hs os = (0, 0)) : findC hs d os = some os := by
  cases d <;> · unfold findC; rw [if_pos h]
theorem findR_yes {hs : List CallR} {os : List Int} (d : Nat) (h : judgeP hs os = (0, 0)) : findR hs d os = some os := by
  cases d <;> · unfold findR; rw [if_pos h]
theorem findC_no {hs : List CallR} {os : List Int} (d : Nat) (h : judgeP hs os ≠ (0, 0)) : findC hs d os = tryI (stepC hs d os) hs.length := by
  cases d with
  | zero => unfold findC; rw [if_neg h, tryI_none]; intro j _; unfold stepC; by_cases hm : (j : Int) ∈ os <;> by_cases hw : wrongP hs (os ++ [(j : Int)]) = true <;> simp [hm, hw]
  | succ d => rw [findC, if_neg h]; exact tryI_congr (fun j _ => rfl)
theorem findR_no {hs : List CallR} {os : List Int} (d : Nat) (h : judgeP hs os ≠ (0, 0)) : findR hs d os = tryI (stepR_ hs d os) hs.length := by
  cases d with
  | zero => unfold findR; rw [if_neg h, tryI_none]; intro j _; unfold stepR_; split <;> rfl
  | succ d => rw [findR, if_neg h]; exact tryI_congr (fun j _ => rfl)
theorem stepC_in {hs : List CallR} {d : Nat} {os : List Int} {i : Nat} (h : (i : Int) ∈ os) : stepC hs d os i = none := by unfold stepC; rw [if_pos h]
theorem stepC_wrong {hs : List CallR} {d : Nat} {os : List Int} {i : Nat} (h : (i : Int) ∉ os) (h2 : wrongP hs (os ++ [(i : Int)]) = true) : stepC hs d os i = none := by unfold stepC; rw [if_neg h, if_pos h2]
theorem stepC_go {hs : List CallR} {d : Nat} {os : List Int} {i : Nat} (h : (i : Int) ∉ os) (h2 : wrongP hs (os ++ [(i : Int)]) = false) : stepC hs (d + 1) os i = findC hs d (os ++ [(i : Int)]) := by
  unfold stepC; rw [if_neg h, if_neg (by rw [h2]; simp)]
theorem stepR_in {hs : List CallR} {d : Nat} {os : List Int} {i : Nat} (h : (i : Int) ∈ os) : stepR_ hs d os i = none := by unfold stepR_; rw [if_pos h]
theorem stepR_go {hs : List CallR} {d : Nat} {os : List Int} {i : Nat} (h : (i : Int) ∉ os) : stepR_ hs (d + 1) os i = findR hs d (os ++ [(i : Int)]) := by
  unfold stepR_; rw [if_neg h]

theorem callsOf_append (hs : List CallR) (os l : List Int) : callsOf hs (os ++ l) = callsOf hs os ++ callsOf hs l := by simp [callsOf]
theorem badAt_append {cs ds : List CallR} {i : Nat} (hi : i < cs.length) : badAt (cs ++ ds) i = badAt cs i := by
  rw [badAt_at (cs := cs ++ ds) (by rw [List.length_append]; omega), badAt_at hi, List.getElem_append_left hi, List.take_append_of_le_length (Nat.le_of_lt hi)]
theorem agBad_append {cs ds : List CallR} {i : Nat} (hi : i < cs.length) : agBad (cs ++ ds) i = agBad cs i := by
  rw [agBad_at (cs := cs ++ ds) (by rw [List.length_append]; omega), agBad_at hi, List.getElem_append_left hi, List.take_append_of_le_length (Nat.le_of_lt hi)]
theorem firstI_yes {p : Nat → Bool} {n : Nat} : (firstI p n).isSome = true ↔ ∃ j, j < n ∧ p j = true := by
  cases h : firstI p n with
  | none =>
    simp only [Option.isSome_none, Bool.false_eq_true, false_iff]
    rintro ⟨j, hj, hp⟩
    rw [firstI_none.1 h j hj] at hp
    cases hp
  | some k =>
    simp only [Option.isSome_some, true_iff]
    obtain ⟨h1, h2, _⟩ := firstI_some.1 h
    exact ⟨k, h1, h2⟩
theorem againstP_yes {cs : List CallR} : 0 ≤ againstP cs ↔ (firstI (agBad cs) cs.length).isSome = true := by
  unfold againstP
  cases firstI (agBad cs) cs.length with
  | none => simp
  | some k => simp
theorem wrongP_iff {hs : List CallR} {os : List Int} : wrongP hs os = true ↔ (∃ j, j < (callsOf hs os).length ∧ badAt (callsOf hs os) j = true) ∨ (∃ j, j < (callsOf hs os).length ∧ agBad (callsOf hs os) j = true) := by
  unfold wrongP
  rw [Bool.or_eq_true, decide_eq_true_iff, againstP_yes, firstI_yes, firstI_yes]
theorem wrongP_append {hs : List CallR} {os l : List Int} (h : wrongP hs os = true) : wrongP hs (os ++ l) = true := by
  rw [wrongP_iff] at h ⊢
  rw [callsOf_append]
  rcases h with ⟨j, hj, hb⟩ | ⟨j, hj, hb⟩
  · exact .inl ⟨j, by rw [List.length_append]; omega, by rw [badAt_append hj]; exact hb⟩
  · exact .inr ⟨j, by rw [List.length_append]; omega, by rw [agBad_append hj]; exact hb⟩
theorem wrongP_judge {hs : List CallR} {os : List Int} (h : wrongP hs os = true) : judgeP hs os ≠ (0, 0) := by
  intro hz
  obtain ⟨_, h2, h3⟩ := judgeP_zero hz
  rw [wrongP_iff] at h
  rcases h with ⟨j, hj, hb⟩ | ⟨j, hj, hb⟩
  · rw [firstI_none.1 h3 j hj] at hb; cases hb
  · rw [firstI_none.1 h2 j hj] at hb; cases hb
theorem findR_wrong {hs : List CallR} : ∀ (d : Nat) {os : List Int}, wrongP hs os = true → findR hs d os = none := by
  intro d
  induction d with
  | zero => intro os h; unfold findR; rw [if_neg (wrongP_judge h)]
  | succ d ih =>
    intro os h
    rw [findR_no _ (wrongP_judge h)]
    refine tryI_none fun j _ => ?_
    by_cases hm : (j : Int) ∈ os
    · exact stepR_in hm
    · rw [stepR_go hm]; exact ih (wrongP_append h)
/-- They find the same. -/
theorem findC_eq {hs : List CallR} : ∀ (d : Nat) (os : List Int), findC hs d os = findR hs d os := by
  intro d
  induction d with
  | zero => intro os; unfold findC findR; rfl
  | succ d ih =>
    intro os
    by_cases hz : judgeP hs os = (0, 0)
    · rw [findC_yes _ hz, findR_yes _ hz]
    · rw [findC_no _ hz, findR_no _ hz]
      refine tryI_congr fun j _ => ?_
      by_cases hm : (j : Int) ∈ os
      · rw [stepC_in hm, stepR_in hm]
      · cases hw : wrongP hs (os ++ [(j : Int)]) with
        | true => rw [stepC_wrong hm hw, stepR_go hm, findR_wrong _ hw]
        | false => rw [stepC_go hm hw, stepR_go hm, ih]

/-- How many numbers below n are free. -/
def freeN (n : Nat) (os : List Int) : Nat := ((List.range n).filter (fun (i : Nat) => !decide ((i : Int) ∈ os))).length
theorem freeN_snoc {n : Nat} {os : List Int} {i : Nat} (hi : i < n) (h : (i : Int) ∉ os) : freeN n (os ++ [(i : Int)]) < freeN n os := by
  unfold freeN
  have h1 : (List.range n).filter (fun (j : Nat) => !decide ((j : Int) ∈ os ++ [(i : Int)])) = ((List.range n).filter (fun (j : Nat) => !decide ((j : Int) ∈ os))).filter (fun j => !decide (j = i)) := by
    rw [List.filter_filter]
    refine List.filter_congr fun j _ => ?_
    by_cases e : j = i
    · subst e; simp
    · have e2 : ¬ (j : Int) = (i : Int) := by omega
      simp [e, e2]
  rw [h1]
  refine List.length_filter_lt_length_iff_exists.2 ⟨i, ?_, by simp⟩
  rw [List.mem_filter]
  exact ⟨by simpa using hi, by simpa using h⟩
theorem freeN_pos {n : Nat} {os : List Int} {i : Nat} (hi : i < n) (h : (i : Int) ∉ os) : 0 < freeN n os := Nat.lt_of_le_of_lt (Nat.zero_le _) (freeN_snoc hi h)
theorem freeN_nil (n : Nat) : freeN n [] ≤ n := by
  unfold freeN
  exact Nat.le_trans (List.length_filter_le _ _) (by simp)


set_option maxHeartbeats 4000000 in
theorem Search1_calls {base : Nat} {w : World} {x : CallR} (h : CallIn base w x) :
    Calls Try.prog 26 #[.agg x.enc.toArray] w fun e w' => e = .returned (.bool (!x.ok)) ∧ Below w.heap.size w w' := by
  have MC : Asd (∀ W, Below w.heap.size w W → Calls Try.prog 27 #[.agg x.enc.toArray] W fun e w' => e = .returned (.bool x.ok) ∧ Below W.heap.size W w') := ⟨fun W hW => may_calls (h.below hW)⟩
  clear h
  generalize x.ok = q at *
  unfold CallR.enc at *
  cases q
  all_goals
    go_enter Try.func26, Try.ntmps26
    go_wp2_with fail
    refine (MC.out _ ((Below.refl _ _).alloc (Nat.le_refl _) _)).mono ?_
    rintro e w3 ⟨rfl, hb3⟩
    have B3 := Asd.mk (((Below.refl w.heap.size w).alloc (Nat.le_refl _) _).trans (hb3.mono (by simp)))
    clear hb3
    go_wp2_with fail
    go_ret
    exact ⟨rfl, B3.out⟩

set_option maxHeartbeats 4000000 in
theorem ContainsCall_calls {base : Nat} {T : TypeId} (p : CallR → Bool) (g : Nat) (eg : ∀ args w, (callFunc g args).run Try.prog w = .ok (.enter g args) w) (w : World)
    (A : Option Addr) (n c : Nat) (l : List CallR) (hr : Rd base T w 10 A n c (l.flatMap CallR.enc)) (hbig : n ≤ 140737488355328)
    (hp : ∀ (W : World) (x : CallR), Below w.heap.size w W → x ∈ l → Calls Try.prog g #[.agg x.enc.toArray] W fun e w' => e = .returned (.bool (p x)) ∧ Below W.heap.size W w') (b : Bool) (hb : l.any p = b) :
    Calls Try.prog 25 #[.slice A n c, .func (.func g) #[] #[]] w fun e w' => e = .returned (.bool b) ∧ Below w.heap.size w w' := by
  have IX := Asd.mk (IndexFunc_call p g eg w A n c l hr hbig hp)
  clear hr hp eg
  cases b with
  | true =>
    have h0 := fidx_any p l hb
    generalize fidx p l = z at h0 IX
    clear hb
    go_enter Try.func25, Try.ntmps25
    go_wp2_with fail
    refine IX.out.mono ?_
    rintro e w' ⟨rfl, hb'⟩
    go_wp2_with fail
    go_ret
    exact ⟨rfl, hb'⟩
  | false =>
    have h0 := fidx_none p l hb
    rw [h0] at IX
    clear hb h0
    go_enter Try.func25, Try.ntmps25
    go_wp2_with fail
    refine IX.out.mono ?_
    rintro e w' ⟨rfl, hb'⟩
    go_wp2_with fail
    go_ret
    exact ⟨rfl, hb'⟩

/-- slices.Clone of numbers. -/
theorem Clone_int {base : Nat} (w : World) (A : Option Addr) (n c : Nat) (xs : List Value) (hr : Rd base 3 w 1 A n c xs) (h1 : ∀ u ∈ xs, u.oneCell' = true) (hbig : n * 8 ≤ 140737488355328) :
    Calls Try.prog 49 #[.slice A n c] w fun e w' => ∃ A' c', e = .returned (.slice A' n c') ∧ Rd base 3 w' 1 A' n c' xs ∧ w'.ownsRow w.heap.size 3 1 (.slice A' n c') n xs ∧ Below w.heap.size w w' := by
  have R := Asd.mk hr
  have O := Asd.mk h1
  have HB := Asd.mk hbig
  clear hbig
  rcases A with _ | a
  · have h0 : c = 0 := hr.nil rfl
    have h2 : n = 0 := by have := hr.cap; omega
    have h3 : xs = [] := List.eq_nil_of_length_eq_zero (by have := hr.len; omega)
    subst h0 h2 h3
    have hnil := fun w => Lib.run_eql_slice_nil (P := Try.prog) w 24 3 none 0 0 0 0 Try.underlying24
    clear hr h1 R O HB
    go_enter Try.func49, Try.ntmps49
    go_wp2
    go_ret
    exact ⟨none, 0, rfl, Rd.none_, World.ownsRow_nil _ _ _ _, Below.refl _ _⟩
  · have hnil := fun w => Lib.run_eql_slice_nil (P := Try.prog) w 24 3 (some a) n c 0 0 Try.underlying24
    clear hr h1
    go_enter Try.func49, Try.ntmps49
    go_wp2_with (at_builtin; refine wpList_append_mine (base := base) (own := w.heap.size) (v := .slice (some ⟨w.heap.size, 0, none⟩) 0 0) (n := 0) (xs := []) rfl (.tmp 5) (.tmp 6) 24 rfl elt_i rfl rfl (World.ownsRow_made w #[] 0 (Nat.le_refl _) (by simp [maxLen]) (by simp)) (R.out.alloc _) O.out (by have := HB.out; simp only [maxLen]; omega) (by have := HB.out; omega) (by simp) ?_; intro v' w' O1 G1; rw [Nat.zero_add] at O1; rw [List.nil_append] at O1; obtain ⟨A', c', rfl, R1⟩ := Rd.of_own (base := base) O1)
    go_ret
    refine ⟨A', c', rfl, R1, O1, ?_⟩
    exact ((Below.refl _ _).alloc (Nat.le_refl _) _).grown G1 (by simp) (fun k hk => by simp [Value.ownBlock] at hk; subst hk; exact Nat.le_refl _)


set_option maxHeartbeats 1000000 in
/-- slices.Index of a number. -/
theorem Index_int {base : Nat} (w : World) (A : Option Addr) (n c : Nat) (os : List Int) (v : Int) (hr : Ints base w A n c os) :
    Calls Try.prog 67 #[.slice A n c, .int .i64 v] w fun e w' => e = .returned (.int .i64 (fidx (fun x => decide (x = v)) os)) ∧ Below w.heap.size w w' := by
  have hn := hr.len
  have hbig := hr.big
  have R := Asd.mk hr
  have N := Asd.mk hn
  clear hr hn
  go_enter Try.func67, Try.ntmps67
  go_wp2
  go_loopw [5, 8] (fun _ s8 wr => ∃ k : Nat, s8 = .int .i64 k ∧ k ≤ n ∧ Asd (Below w.heap.size w wr) ∧ Asd (∀ j (hj : j < os.length), j < k → decide (os[j] = v) = false)) (fun _ s8 _ => n - (intOf s8).toNat)
  case atStart => exact ⟨0, rfl, Nat.zero_le _, ⟨Below.refl _ _⟩, ⟨fun j _ h => absurd h (Nat.not_lt_zero _)⟩⟩
  case round =>
    obtain ⟨k, rfl, hkn, BW, I⟩ := hrel
    by_cases hlt : k < n
    · obtain ⟨b, off, rfl, hbl, hil, c0⟩ := (R.out.below BW.out).at_ hlt
      have hcd : k < c := Nat.lt_of_lt_of_le hlt R.out.rd.cap
      generalize hy : os[k] = y at c0
      have Y := Asd.mk hy
      clear hy
      by_cases hq : y = v
      · have Q := Asd.mk hq
        have hq2 : v = y := hq.symm
        clear hq
        subst hq2
        go_wp2_with fail
        go_ret
        exact ⟨by rw [fidx_hit (fun x => decide (x = v)) os k hil (by rw [Y.out]; simp) I.out]; rfl, BW.out⟩
      · have Q := Asd.mk hq
        have hq2 : ¬ v = y := fun e => hq e.symm
        have hq3 : (v == y) = false := by simpa using hq2
        clear hq
        go_wp2_with fail
        go_roundw
        case measure => simp [intOf]; omega
        case rel =>
          refine ⟨k + 1, by go_num, by omega, BW, ⟨fun j hj hjk => ?_⟩⟩
          rcases Nat.lt_or_ge j k with h1 | h1
          · exact I.out j hj h1
          · obtain rfl : j = k := by omega
            rw [Y.out]; exact decide_eq_false Q.out
    · go_wp2_with fail
      go_ret
      exact ⟨by rw [fidx_miss (fun x => decide (x = v)) os fun j hj => I.out j hj (by have := N.out; omega)]; rfl, BW.out⟩

theorem any_mem (os : List Int) (v : Int) : os.any (fun x => decide (x = v)) = decide (v ∈ os) := by
  rw [Bool.eq_iff_iff, List.any_eq_true, decide_eq_true_iff]
  exact ⟨fun ⟨x, hx, h⟩ => by have := of_decide_eq_true h; exact this ▸ hx, fun h => ⟨v, h, by simp⟩⟩
set_option maxHeartbeats 4000000 in
theorem Contains_int {base : Nat} (w : World) (A : Option Addr) (n c : Nat) (os : List Int) (v : Int) (hr : Ints base w A n c os) (b : Bool) (hb : decide (v ∈ os) = b) :
    Calls Try.prog 50 #[.slice A n c, .int .i64 v] w fun e w' => e = .returned (.bool b) ∧ Below w.heap.size w w' := by
  rw [← any_mem] at hb
  have IX := Asd.mk (Index_int w A n c os v hr)
  clear hr
  cases b with
  | true =>
    have h0 := fidx_any _ _ hb
    generalize fidx (fun x => decide (x = v)) os = z at h0 IX
    clear hb
    go_enter Try.func50, Try.ntmps50
    go_wp2_with fail
    refine IX.out.mono ?_
    rintro e w' ⟨rfl, hb'⟩
    go_wp2_with fail
    go_ret
    exact ⟨rfl, hb'⟩
  | false =>
    have h0 := fidx_none _ _ hb
    rw [h0] at IX
    clear hb h0
    go_enter Try.func50, Try.ntmps50
    go_wp2_with fail
    refine IX.out.mono ?_
    rintro e w' ⟨rfl, hb'⟩
    go_wp2_with fail
    go_ret
    exact ⟨rfl, hb'⟩


set_option maxHeartbeats 16000000 in
set_option maxRecDepth 100000 in
theorem wrong_calls {base hb : Nat} {w : World} {A B : Option Addr} {n c m d : Nat} {hs : List CallR} {os : List Int} (hc : w.cell? ⟨hb, 0, none⟩ = some (.slice A n c)) (hbl : hb < w.heap.size) (hh : Hist base w A n c hs) (ho : Ints base w B m d os) (hai : AllIn hs os) (hbs : base ≤ w.heap.size) :
    Calls Try.prog 28 #[.slice B m d, .pointer (some ⟨hb, 0, none⟩)] w fun e w' => e = .returned (.bool (wrongP hs os)) ∧ Below w.heap.size w w' := by
  have AC : Asd (∀ W, Below w.heap.size w W → Calls Try.prog 30 #[.slice A n c, .slice B m d] W fun e w' => e = .returned (.int .i64 (againstP (callsOf hs os))) ∧ Below W.heap.size W w') :=
    ⟨fun W hW => against_calls (hh.below hW) (ho.below hW) hai⟩
  have PC : Asd (Calls Try.prog 29 #[.slice A n c, .slice B m d] w (PlayPost base w (firstI (badAt (callsOf hs os)) (callsOf hs os).length) (rowsP0 (callsOf hs os)))) :=
    ⟨play_calls hh ho hai hbs⟩
  have HC : Asd (∀ W, Below w.heap.size w W → W.cell? ⟨hb, 0, none⟩ = some (.slice A n c)) := ⟨fun W hW => (hW.cell (p := ⟨hb, 0, none⟩) hbl).trans hc⟩
  clear hh ho
  generalize hw : wrongP hs os = r
  unfold wrongP at hw
  generalize hz : againstP (callsOf hs os) = z at hw AC
  generalize firstI (badAt (callsOf hs os)) (callsOf hs os).length = q at hw PC
  have W := Asd.mk hw
  clear hw hz hai
  cases q with
  | some i =>
    obtain rfl : r = true := by rw [← W.out]; rfl
    clear W AC
    by_cases hi0 : i = 0
    · subst hi0
      go_enter Try.func28, Try.ntmps28
      go_wp2_with fail
      refine PC.out.mono ?_
      rintro e w1 ⟨hb1, hs1, hn1⟩
      obtain rfl := hs1 _ rfl
      have B1 := Asd.mk hb1
      clear hb1 hs1 hn1
      have h3 := HC.out _ (B1.out.alloc B1.out.size (.cells #[.int .i64 0, .int .i64 251] 35))
      obtain ⟨x0, x1, x2⟩ := fault_cells (heap_alloc_new w1 (.cells #[.int .i64 ((0 : Nat) : Int), .int .i64 251] 35))
      go_wp2_with fail
      go_ret
      exact ⟨rfl, by repeat (first | exact B1.out | refine Below.drew ?_ | refine Below.setCell ?_ (by have := B1.out.size; simp; omega) _ | refine Below.alloc ?_ (by have := B1.out.size; simp; omega) _)⟩
    · have e1 : ((i : Int) == 0) = false := by simpa using hi0
      have e2 : ((i : Int) != 0) = true := by simp [bne, e1]
      go_enter Try.func28, Try.ntmps28
      go_wp2_with fail
      refine PC.out.mono ?_
      rintro e w1 ⟨hb1, hs1, hn1⟩
      obtain rfl := hs1 _ rfl
      have B1 := Asd.mk hb1
      clear hb1 hs1 hn1
      have h3 := HC.out _ (B1.out.alloc B1.out.size (.cells #[.int .i64 i, .int .i64 251] 35))
      obtain ⟨x0, x1, x2⟩ := fault_cells (heap_alloc_new w1 (.cells #[.int .i64 i, .int .i64 251] 35))
      go_wp2_with fail
      go_ret
      exact ⟨rfl, by repeat (first | exact B1.out | refine Below.drew ?_ | refine Below.setCell ?_ (by have := B1.out.size; simp; omega) _ | refine Below.alloc ?_ (by have := B1.out.size; simp; omega) _)⟩
  | none =>
    obtain rfl : r = decide (0 ≤ z) := by rw [← W.out]; rfl
    clear W
    go_enter Try.func28, Try.ntmps28
    go_wp2_with fail
    refine PC.out.mono ?_
    rintro e w1 ⟨hb1, hs1, hn1⟩
    obtain ⟨g, A', c', rfl, _⟩ := hn1 rfl
    have B1 := Asd.mk hb1
    clear hb1 hs1 hn1
    have B2 := Asd.mk (B1.out.alloc B1.out.size (.cells #[.int .i64 0, .int .i64 0] 35))
    have h3 := HC.out _ B2.out
    obtain ⟨x0, x1, x2⟩ := fault_cells (heap_alloc_new w1 (.cells #[.int .i64 0, .int .i64 0] 35))
    go_wp2_with fail
    refine (AC.out _ B2.out).mono ?_
    rintro e w3 ⟨rfl, hb3⟩
    have B3 := Asd.mk (B2.out.trans (hb3.mono B2.out.size))
    clear hb3
    go_wp2_with fail
    go_ret
    exact ⟨rfl, by repeat (first | exact B3.out | refine Below.drew ?_)⟩

end Go.Proofs.Ytlhjfblpinpjiaa

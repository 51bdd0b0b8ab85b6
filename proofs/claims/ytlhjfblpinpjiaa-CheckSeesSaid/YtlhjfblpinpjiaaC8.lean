/- Judge. -/
import Derived.Test.YtlhjfblpinpjiaaC6
set_option linter.unusedVariables false
set_option linter.unusedSimpArgs false
namespace Go.Proofs.Ytlhjfblpinpjiaa
open Go.RowKit Go.Maps

theorem formP_code {hs : List CallR} {os : List Int} (h : formP hs os ≠ (0, 0)) : (formP hs os).2 ≠ 0 := by
  unfold formP at h ⊢
  split
  · decide
  · rename_i h1
    rw [if_neg h1] at h
    split
    · simp
    · rename_i h2
      rw [if_neg h2] at h
      cases h3 : firstI (ordBad hs.length os) os.length with
      | some i => simp
      | none =>
        rw [h3] at h
        cases h4 : firstI (leftOut hs os) hs.length with
        | some i => simp
        | none => rw [h4] at h; exact absurd rfl h
theorem formP_zero {hs : List CallR} {os : List Int} (h : formP hs os = (0, 0)) : hs.length ≤ 200 ∧ hs.any (fun x => !x.ok) = false ∧ firstI (ordBad hs.length os) os.length = none ∧ firstI (leftOut hs os) hs.length = none := by
  unfold formP at h
  split at h
  · cases h
  · rename_i h1
    split at h
    · injection h with h _
      exfalso; revert h; simp
      rename_i h2; intro h; simp at *
    · rename_i h2
      cases h3 : firstI (ordBad hs.length os) os.length with
      | some i => rw [h3] at h; simp at h
      | none =>
        rw [h3] at h
        cases h4 : firstI (leftOut hs os) hs.length with
        | some i => rw [h4] at h; simp at h
        | none => exact ⟨by omega, by simpa using h2, rfl, rfl⟩
theorem formP_allin {hs : List CallR} {os : List Int} (h : formP hs os = (0, 0)) : AllIn hs os := by
  obtain ⟨_, _, h3, _⟩ := formP_zero h
  intro o ho
  obtain ⟨i, hi, rfl⟩ := List.getElem_of_mem ho
  have := firstI_none.1 h3 i hi
  rw [ordBad_at hi] at this
  simp at this
  omega
/-- What is wrong with an order of a history. -/
def judgeP (hs : List CallR) (os : List Int) : Int × Int :=
  if formP hs os ≠ (0, 0) then formP hs os
  else match firstI (agBad (callsOf hs os)) (callsOf hs os).length with
    | some i => ((i : Int), 250)
    | none => match firstI (badAt (callsOf hs os)) (callsOf hs os).length with
      | some i => ((i : Int), 251)
      | none => (0, 0)
section
variable {hs : List CallR} {os : List Int}
theorem judgeP_form (h : formP hs os ≠ (0, 0)) : judgeP hs os = formP hs os := by unfold judgeP; rw [if_pos h]
theorem judgeP_ag (h : formP hs os = (0, 0)) {i : Nat} (h2 : firstI (agBad (callsOf hs os)) (callsOf hs os).length = some i) : judgeP hs os = ((i : Int), 250) := by unfold judgeP; rw [if_neg (by rw [h]; simp), h2]
theorem judgeP_bad (h : formP hs os = (0, 0)) (h2 : firstI (agBad (callsOf hs os)) (callsOf hs os).length = none) {i : Nat} (h3 : firstI (badAt (callsOf hs os)) (callsOf hs os).length = some i) : judgeP hs os = ((i : Int), 251) := by
  unfold judgeP; rw [if_neg (by rw [h]; simp), h2]; dsimp only; rw [h3]
theorem judgeP_ok (h : formP hs os = (0, 0)) (h2 : firstI (agBad (callsOf hs os)) (callsOf hs os).length = none) (h3 : firstI (badAt (callsOf hs os)) (callsOf hs os).length = none) : judgeP hs os = (0, 0) := by
  unfold judgeP; rw [if_neg (by rw [h]; simp), h2]; dsimp only; rw [h3]
end
/-- A fault's cells. -/
theorem fault_cells {w : World} {b : Nat} {a c : Int} (h : w.heap[b]? = some (.cells #[.int .i64 a, .int .i64 c] 35 (0, 0))) : w.cell? ⟨b, 0, none⟩ = some (.int .i64 a) ∧ w.cell? ⟨b, 1, none⟩ = some (.int .i64 c) ∧ b < w.heap.size :=
  ⟨(cell_of_row w b 0 _ _ _ h).trans rfl, (cell_of_row w b 1 _ _ _ h).trans rfl, (Array.getElem?_eq_some_iff.1 h).1⟩
def JudgePost (base : Nat) (w : World) (hs : List CallR) (os : List Int) (e : Ending) (w' : World) : Prop :=
  Below w.heap.size w w' ∧ (judgeP hs os ≠ (0, 0) → e = .returned (.tuple #[.pointer none, .agg #[.int .i64 (judgeP hs os).1, .int .i64 (judgeP hs os).2]])) ∧
    (judgeP hs os = (0, 0) → ∃ g A' c', e = .returned (.tuple #[.pointer (some ⟨g, 0, none⟩), .agg #[.int .i64 0, .int .i64 0]]) ∧ Tab base w' g (rowsP0 (callsOf hs os)) A' c')

set_option maxHeartbeats 16000000 in
set_option maxRecDepth 100000 in
theorem judge_calls {base : Nat} {w : World} {A B : Option Addr} {n c m d : Nat} {hs : List CallR} {os : List Int} (hh : Hist base w A n c hs) (ho : Ints base w B m d os) (hbs : base ≤ w.heap.size) :
    Calls Try.prog 35 #[.slice A n c, .slice B m d] w (JudgePost base w hs os) := by
  have FC : Asd (∀ W, Below w.heap.size w W → Calls Try.prog 56 #[.slice A n c, .slice B m d] W fun e w' => e = .returned (.agg #[.int .i64 (formP hs os).1, .int .i64 (formP hs os).2]) ∧ Below W.heap.size W w') :=
    ⟨fun W hW => form_calls (hh.below hW) (ho.below hW) (Nat.le_trans hbs hW.size)⟩
  have AC : Asd (AllIn hs os → ∀ W, Below w.heap.size w W → Calls Try.prog 30 #[.slice A n c, .slice B m d] W fun e w' => e = .returned (.int .i64 (againstP (callsOf hs os))) ∧ Below W.heap.size W w') :=
    ⟨fun hai W hW => against_calls (hh.below hW) (ho.below hW) hai⟩
  have PC : Asd (AllIn hs os → ∀ W, Below w.heap.size w W → Calls Try.prog 29 #[.slice A n c, .slice B m d] W (PlayPost base W (firstI (badAt (callsOf hs os)) (callsOf hs os).length) (rowsP0 (callsOf hs os)))) :=
    ⟨fun hai W hW => play_calls (hh.below hW) (ho.below hW) hai (Nat.le_trans hbs hW.size)⟩
  clear hh ho
  have FS := Asd.mk (FB.start w)
  by_cases hz : formP hs os = (0, 0)
  · have AI := Asd.mk (formP_allin hz)
    have HZ := Asd.mk hz
    rw [hz] at FC
    simp only at FC
    clear hz
    cases ha : firstI (agBad (callsOf hs os)) (callsOf hs os).length with
    | some i =>
      have J := Asd.mk (judgeP_ag HZ.out ha)
      have hag : againstP (callsOf hs os) = (i : Int) := by unfold againstP; rw [ha]
      have AC2 := Asd.mk (AC.out AI.out)
      rw [hag] at AC2
      clear ha hag AC PC
      go_enter Try.func35, Try.ntmps35
      go_wp2_with fail
      refine (FC.out _ FS.out.below).mono ?_
      rintro e w1 ⟨rfl, hb1⟩
      have F1 := Asd.mk (FS.out.next hb1)
      clear hb1
      go_wp2_with fail
      have F2 := Asd.mk (F1.out.next ((Below.refl w1.heap.size w1).alloc (Nat.le_refl _) (.cells #[.int .i64 0, .int .i64 0] 35)))
      refine (AC2.out _ F2.out.below).mono ?_
      rintro e w3 ⟨rfl, hb3⟩
      have F3 := Asd.mk (F2.out.next hb3)
      clear hb3
      have f0 := F3.out.f0
      have f1 := F3.out.f1
      have ff := F3.out.fr
      have fl := F3.out.lt
      go_wp2_with fail
      refine bodyPost_ret (v := .tuple #[.pointer none, .agg #[.int .i64 i, .int .i64 250]]) (by simp [results, Try.results35, go_sem, f0, f1, ff, fl]) rfl ?_
      exact ⟨by repeat (first | exact F3.out.below | refine Below.drew ?_ | refine Below.setCell ?_ (by simp) _ | refine Below.alloc ?_ (by simp; omega) _), fun _ => by rw [J.out], fun h => by rw [J.out] at h; simp at h⟩
    | none =>
      have hag : againstP (callsOf hs os) = -1 := by unfold againstP; rw [ha]
      have AC2 := Asd.mk (AC.out AI.out)
      rw [hag] at AC2
      have HA := Asd.mk ha
      have PC2 := Asd.mk (PC.out AI.out)
      clear ha hag AC PC
      go_enter Try.func35, Try.ntmps35
      go_wp2_with fail
      refine (FC.out _ FS.out.below).mono ?_
      rintro e w1 ⟨rfl, hb1⟩
      have F1 := Asd.mk (FS.out.next hb1)
      clear hb1
      go_wp2_with fail
      have F2 := Asd.mk (F1.out.next ((Below.refl w1.heap.size w1).alloc (Nat.le_refl _) (.cells #[.int .i64 0, .int .i64 0] 35)))
      refine (AC2.out _ F2.out.below).mono ?_
      rintro e w3 ⟨rfl, hb3⟩
      have F3 := Asd.mk (F2.out.next hb3)
      clear hb3
      go_wp2_with fail
      refine (PC2.out _ F3.out.below).mono ?_
      rintro e w4 ⟨hb4, hs4, hn4⟩
      have F4 := Asd.mk (F3.out.next hb4)
      clear hb4
      cases hp : firstI (badAt (callsOf hs os)) (callsOf hs os).length with
      | some i =>
        have J := Asd.mk (judgeP_bad HZ.out HA.out hp)
        obtain rfl := hs4 i hp
        clear hs4 hn4 hp
        have f0 := F4.out.f0
        have f1 := F4.out.f1
        have ff := F4.out.fr
        have fl := F4.out.lt
        go_wp2_with fail
        refine bodyPost_ret (v := .tuple #[.pointer none, .agg #[.int .i64 i, .int .i64 251]]) (by simp [results, Try.results35, go_sem, f0, f1, ff, fl]) rfl ?_
        exact ⟨by repeat (first | exact F4.out.below | refine Below.drew ?_ | refine Below.setCell ?_ (by simp) _ | refine Below.alloc ?_ (by simp; omega) _), fun _ => by rw [J.out], fun h => by rw [J.out] at h; simp at h⟩
      | none =>
        have J := Asd.mk (judgeP_ok HZ.out HA.out hp)
        obtain ⟨g, A', c', rfl, hT⟩ := hn4 hp
        have T4 := Asd.mk hT
        clear hs4 hn4 hp hT
        have f0 := F4.out.f0
        have f1 := F4.out.f1
        have ff := F4.out.fr
        have fl := F4.out.lt
        go_wp2_with fail
        refine bodyPost_ret (v := .tuple #[.pointer (some ⟨g, 0, none⟩), .agg #[.int .i64 0, .int .i64 0]]) (by simp [results, Try.results35, go_sem, f0, f1, ff, fl]) rfl ?_
        have hI : IsT w4 w.heap.size 35 := ⟨_, _, F4.out.blk⟩
        exact ⟨by repeat (first | exact F4.out.below | refine Below.drew ?_ | refine Below.setCell ?_ (by simp) _ | refine Below.alloc ?_ (by simp; omega) _), fun h => absurd J.out h, fun _ => ⟨g, A', c', rfl, (T4.out.set (p := ⟨w.heap.size, 0, none⟩) hI (by decide) (by decide) hbs _).set (p := ⟨w.heap.size, 1, none⟩) (hI.set _ _) (by decide) (by decide) hbs _⟩⟩
  · have hc := formP_code hz
    have J := Asd.mk (judgeP_form hz)
    have NZ := Asd.mk hz
    generalize formP hs os = f at *
    obtain ⟨fa, fc⟩ := f
    simp only at FC hc
    have hcb : (fc == 0) = false := by simpa using hc
    have hcb2 : (fc != 0) = true := by simp [bne, hcb]
    clear AC PC hz
    by_cases ha : fa = 0
    · subst ha
      go_enter Try.func35, Try.ntmps35
      go_wp2_with fail
      refine (FC.out _ FS.out.below).mono ?_
      rintro e w1 ⟨rfl, hb1⟩
      have F1 := Asd.mk (FS.out.next hb1)
      clear hb1
      have F2 := Asd.mk (F1.out.next ((Below.refl w1.heap.size w1).alloc (Nat.le_refl _) (.cells #[.int .i64 0, .int .i64 fc] 35)))
      obtain ⟨x0, x1, x2⟩ := fault_cells (heap_alloc_new w1 (.cells #[.int .i64 0, .int .i64 fc] 35))
      have f0 := F2.out.f0
      have f1 := F2.out.f1
      have ff := F2.out.fr
      have fl := F2.out.lt
      go_wp2_with fail
      go_region
      go_wp2_with fail
      refine bodyPost_ret (v := .tuple #[.pointer none, .agg #[.int .i64 0, .int .i64 fc]]) (by simp [results, Try.results35, go_sem, f0, f1, ff, fl]) rfl ?_
      exact ⟨by repeat (first | exact F2.out.below | refine Below.drew ?_ | refine Below.setCell ?_ (by simp) _ | refine Below.alloc ?_ (by simp; omega) _), fun _ => by rw [J.out], fun h => by rw [J.out] at h; exact absurd h NZ.out⟩
    · have hab : (fa == 0) = false := by simpa using ha
      have hab2 : (fa != 0) = true := by simp [bne, hab]
      go_enter Try.func35, Try.ntmps35
      go_wp2_with fail
      refine (FC.out _ FS.out.below).mono ?_
      rintro e w1 ⟨rfl, hb1⟩
      have F1 := Asd.mk (FS.out.next hb1)
      clear hb1
      have F2 := Asd.mk (F1.out.next ((Below.refl w1.heap.size w1).alloc (Nat.le_refl _) (.cells #[.int .i64 fa, .int .i64 fc] 35)))
      obtain ⟨x0, x1, x2⟩ := fault_cells (heap_alloc_new w1 (.cells #[.int .i64 fa, .int .i64 fc] 35))
      have f0 := F2.out.f0
      have f1 := F2.out.f1
      have ff := F2.out.fr
      have fl := F2.out.lt
      go_wp2_with fail
      go_region
      go_wp2_with fail
      refine bodyPost_ret (v := .tuple #[.pointer none, .agg #[.int .i64 fa, .int .i64 fc]]) (by simp [results, Try.results35, go_sem, f0, f1, ff, fl]) rfl ?_
      exact ⟨by repeat (first | exact F2.out.below | refine Below.drew ?_ | refine Below.setCell ?_ (by simp) _ | refine Below.alloc ?_ (by simp; omega) _), fun _ => by rw [J.out], fun h => by rw [J.out] at h; exact absurd h NZ.out⟩

set_option maxHeartbeats 16000000 in
set_option maxRecDepth 100000 in
theorem Judge_calls {base : Nat} {w : World} {A B : Option Addr} {n c m d : Nat} {hs : List CallR} {os : List Int} (hh : Hist base w A n c hs) (ho : Ints base w B m d os) (hbs : base ≤ w.heap.size) :
    Calls Try.prog 15 #[.slice A n c, .slice B m d] w fun e w' => e = .returned (.agg #[.int .i64 (judgeP hs os).1, .int .i64 (judgeP hs os).2]) ∧ Below w.heap.size w w' := by
  have JC : Asd (∀ W, Below w.heap.size w W → Calls Try.prog 35 #[.slice A n c, .slice B m d] W (JudgePost base W hs os)) :=
    ⟨fun W hW => judge_calls (hh.below hW) (ho.below hW) (Nat.le_trans hbs hW.size)⟩
  clear hh ho
  have FS := Asd.mk (FB.start w)
  have hpp : ∀ (W : World) e w', JudgePost base W hs os e w' → Below W.heap.size W w' ∧ ∃ pp, e = .returned (.tuple #[.pointer pp, .agg #[.int .i64 (judgeP hs os).1, .int .i64 (judgeP hs os).2]]) := by
    rintro W e w' ⟨h1, h2, h3⟩
    refine ⟨h1, ?_⟩
    by_cases hz : judgeP hs os = (0, 0)
    · obtain ⟨g, A', c', h, _⟩ := h3 hz
      rw [hz]
      exact ⟨_, h⟩
    · exact ⟨_, h2 hz⟩
  have PP := Asd.mk hpp
  clear hpp
  generalize judgeP hs os = f at *
  obtain ⟨fa, fc⟩ := f
  simp only at PP ⊢
  go_enter Try.func15, Try.ntmps15
  go_wp2_with fail
  refine (JC.out _ FS.out.below).mono ?_
  intro e w1 hj
  obtain ⟨hb1, pp, rfl⟩ := PP.out _ _ _ hj
  have F1 := Asd.mk (FS.out.next hb1)
  clear hb1 hj
  have F2 := Asd.mk (F1.out.next ((Below.refl w1.heap.size w1).alloc (Nat.le_refl _) (.cells #[.int .i64 fa, .int .i64 fc] 35)))
  obtain ⟨x0, x1, x2⟩ := fault_cells (heap_alloc_new w1 (.cells #[.int .i64 fa, .int .i64 fc] 35))
  have f0 := F2.out.f0
  have f1 := F2.out.f1
  have ff := F2.out.fr
  have fl := F2.out.lt
  go_wp2_with fail
  refine bodyPost_ret (v := .agg #[.int .i64 fa, .int .i64 fc]) (by simp [results, Try.results15, go_sem, f0, f1, ff, fl]) rfl ?_
  exact ⟨rfl, by repeat (first | exact F2.out.below | refine Below.setCell ?_ (by simp) _ | refine Below.alloc ?_ (by simp; omega) _)⟩

end Go.Proofs.Ytlhjfblpinpjiaa

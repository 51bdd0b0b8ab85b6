/- A range over a function whose rounds are handed what they know of the world: the body goes on, or returns. -/
import Derived.Test.YtlhjfblpinpjiaaProg
import Derived.RangeFuncNested
import Derived.RangeFuncBound
import Derived.RangeFuncCalls
import Derived.RangeFuncLeaves
import Derived.WalkKit
import Derived.OwnWalkIn
import Derived.TacticsInMore
import Derived.LoopNIn
import Derived.LoopIn
import Derived.Deep.Draws
set_option linter.unusedVariables false
set_option linter.unusedSimpArgs false
namespace Go.Proofs.Ytlhjfblpinpjiaa
open Go.RowKit

theorem below_round {w1 wb w3 : World} {l : Nat} {o ob : Obj} (h : w1.heap[l]? = some o) (hwb : wb = w1.putObj l ob) (h3 : Below wb.heap.size wb w3) : Below w1.heap.size w1 (w3.putObj l o) := by
  have hl : l < w1.heap.size := (Array.getElem?_eq_some_iff.1 h).1
  have hs : wb.heap.size = w1.heap.size := by rw [hwb]; simp [World.putObj]
  have hsz := h3.size
  refine ⟨by have := h3.os; rw [hwb] at this; exact this, by have := h3.tape; rw [hwb] at this; exact this, by have := h3.output; rw [hwb] at this; exact this, ?_, fun k hk => ?_⟩
  · have : (w3.putObj l o).heap.size = w3.heap.size := by simp [World.putObj]
    omega
  · by_cases e : k = l
    · subst e
      rw [h]
      exact World.putObj_heap_same (by omega)
    · rw [World.putObj_heap_other e, h3.block k (by omega), hwb, World.putObj_heap_other e]

/-- **'for x := range seq { if .. { return } }'**: what a round may know of what it is handed is Pr; it returns where Stop holds, leaving Jx. -/
theorem range_stop {F : Fence} {n : Nat} {P : Program} {α : Type} {g : Operand} {ps : Array Tmp} {assign body : Code} {Q : Exit → Act → World → Prop} {a : Act} {w : World}
    (hro : F.round = none) (h1 : 1 ≤ n) {gf : Nat} {lb : Array Value} (hg : a.eval g = .func (.func gf) #[] lb) (hFg : F.fn gf) (eg : ∀ args w, (callFunc gf args).run P w = .ok (.enter gf args) w)
    {encs : α → Array Value} (hps : ∀ x, (encs x).size = ps.size) (Pr : α → World → Prop) (Stop : α → Prop) (Jx : α → World → Prop) (Found : World → Prop) (Got : α → Prop)
    (hPr : ∀ x W l o o', w.heap.size ≤ l → W.heap[l]? = some o → o.isCells = false → Pr x W → Pr x (W.putObj l o'))
    (hJx : ∀ x W l o o', w.heap.size ≤ l → W.heap[l]? = some o → o.isCells = false → Jx x W → Jx x (W.putObj l o'))
    (hJd : ∀ x W q, Jx x W → Jx x (W.drewN q))
    (hseq : ∀ (l : Nat) (W : World) (D : α → World → Prop), w.heap.size ≤ l → l < W.heap.size → Below w.heap.size w W → (∀ x W1 q, D x W1 → D x (W1.drewN q)) →
      (∀ x W1, Below W.heap.size W W1 → Pr x W1 → YieldAt F (n - 1 - 1) P l (encs x) W1 fun e W' => (¬ Stop x ∧ e = .returned (.bool true) ∧ Below W1.heap.size W1 W') ∨ (Stop x ∧ e = .returned (.bool false) ∧ D x W')) →
      CallsIn F (n - 1) P gf (#[.func (.yield l) #[] #[]] ++ lb) W fun e W' => (∃ v, e = .returned v) ∧ ((Below W.heap.size W W' ∧ Found W') ∨ ∃ x, Got x ∧ D x W'))
    (hFd : ∀ W l o o', w.heap.size ≤ l → W.heap[l]? = some o → o.isCells = false → Found W → Found (W.putObj l o'))
    (a₁ : α → Act)
    (hassign : ∀ (l : Nat) (x : α) (W : World) (K : Act → World → Prop), K (a₁ x) W →
      assign.wpIn (F.inRound l) (n - 1 - 1) P (Exit.then K (fun _ _ _ => False)) { tmps := (ps.zip (encs x)).foldl (fun t (p, v) => t.setIfInBounds p v) a.tmps, defers := [] } W)
    (hbody : ∀ (l : Nat) (x : α) (W : World), w.heap.size ≤ l → Below w.heap.size w W → Pr x W →
      body.wpIn (F.inRound l) (n - 1 - 1) P (fun e _ W' => (¬ Stop x ∧ e = .normal ∧ Below W.heap.size W W') ∨ (Stop x ∧ e = .ret ∧ KeepsOthers W W' ∧ Jx x W')) (a₁ x) W)
    (hdone : ∀ (D : Nat) (W : World), w.heap.size ≤ D → Below w.heap.size w W → Found W → W.heap[D]? = some (.deferred (some [])) → Q .normal { a with defers := { target := .collected D, args := #[] } :: a.defers } W)
    (hstop : ∀ (D : Nat) (x : α) (W : World), w.heap.size ≤ D → Got x → Jx x W → W.heap[D]? = some (.deferred (some [])) → Q .ret { a with defers := { target := .collected D, args := #[] } :: a.defers } W) :
    (Code.rangeFunc g ps assign body).wpIn F n P Q a w := by
  refine wpIn_rangeFunc ?_
  intro fn hfn
  rw [hro]
  obtain ⟨rc, hrc⟩ : ∃ rc : LoopState → Option Code → Loop, rc = fun st pe => { state := st, pending := pe, fn, tmps := a.tmps, params := ps, assign, body, defers := w.heap.size } := ⟨_, rfl⟩
  obtain ⟨W1, hW1⟩ : ∃ W1, (w.alloc (.deferred (some []))).alloc (.loop (rc .ready none)) = W1 := ⟨_, rfl⟩
  have hL1 : W1.heap[w.heap.size + 1]? = some (.loop (rc .ready none)) := by
    rw [← hW1]
    have := World.alloc_heap_new (w.alloc (.deferred (some []))) (.loop (rc .ready none))
    rwa [World.size_alloc] at this
  have hK1 : W1.heap[w.heap.size]? = some (.deferred (some [])) := by
    rw [← hW1]
    exact (Below.heap_alloc _ _ _ (by simp)).trans (World.alloc_heap_new w _)
  have hB1 : Below w.heap.size w W1 := by
    rw [← hW1]
    exact ((Below.refl _ w).alloc (Nat.le_refl _) _).alloc (by simp) _
  have hl1 : w.heap.size + 1 < W1.heap.size := (Array.getElem?_eq_some_iff.1 hL1).1
  refine ⟨w.heap.size + 1, [{ target := .collected w.heap.size, args := #[] }], W1, { target := .fn (.func gf) lb, args := #[.func (.yield (w.heap.size + 1)) #[] #[]] }, W1, gf,
    #[.func (.yield (w.heap.size + 1)) #[] #[]] ++ lb, W1, ?_, ?_, ?_, ?_, fun _ => h1, ?_⟩
  · rw [← hW1, hrc]; exact run_enterLoop_outer _ _ _ _ _
  · simp only [resolve, hg]
    simp [go_sem]
  · intro f' hf'
    simp [Target.leads] at hf'
    subst hf'
    exact hFg
  · simp [invoke, go_sem, eg]
  · refine (hseq (w.heap.size + 1) W1 (fun x W => Jx x W ∧ W.heap[w.heap.size + 1]? = some (.loop (rc .done (some .ret))) ∧ W.heap[w.heap.size]? = some (.deferred (some []))) (by omega) hl1 hB1
      (fun x W q h => ⟨hJd x W q h.1, h.2⟩) ?_).mono ?_
    · intro x W hbW hx
      have hl : W.heap[w.heap.size + 1]? = some (.loop (rc .ready none)) := (hbW.block _ hl1).trans hL1
      have hk : W.heap[w.heap.size]? = some (.deferred (some [])) := (hbW.block _ (by omega)).trans hK1
      have hlt : w.heap.size + 1 < W.heap.size := (Array.getElem?_eq_some_iff.1 hl).1
      have hy := run_yield (P := P) (args := encs x) hl (by rw [hrc]; exact hps x)
      rw [hrc] at hy
      refine ⟨fn, _, assign, body, hy, roundIn_of_wpIn hfn (hassign _ x W _ ⟨_, run_beginRound hl (by rw [hrc]), ?_⟩)⟩
      obtain ⟨Wb, hWb⟩ : ∃ Wb, W.putObj (w.heap.size + 1) (.loop { rc .ready none with state := .busy }) = Wb := ⟨_, rfl⟩
      have hl2 : Wb.heap[w.heap.size + 1]? = some (.loop { rc .ready none with state := .busy }) := by rw [← hWb]; exact World.putObj_heap_same hlt
      have hk2 : Wb.heap[w.heap.size]? = some (.deferred (some [])) := by rw [← hWb]; exact (World.putObj_heap_other (by omega)).trans hk
      have hb2 : Below w.heap.size w Wb := by
        have h3 : Below w.heap.size w W := hB1.trans (hbW.mono hB1.size)
        rw [← hWb]
        exact h3.trans ⟨rfl, rfl, rfl, by simp [World.putObj], fun k hk => World.putObj_heap_other (by omega)⟩
      rw [hWb]
      refine wpIn_mono (hbody _ x Wb (by omega) hb2 (by rw [← hWb]; exact hPr _ _ _ _ _ (by omega) hl rfl hx)) ?_
      rintro e a3 W3 (⟨hns, rfl, hb3⟩ | ⟨hs, rfl, hk3, hj3⟩)
      · have hl3 : W3.heap[w.heap.size + 1]? = some (.loop { rc .ready none with state := .busy }) := (hb3.block _ (Array.getElem?_eq_some_iff.1 hl2).1).trans hl2
        have hr := run_endRound (P := P) none hl3
        rw [hrc] at hr
        refine ⟨_, _, hr, .inl ⟨hns, rfl, ?_⟩⟩
        have := below_round hl hWb.symm hb3
        rw [hrc] at this
        exact this
      · have hl3 := hk3.same _ _ hl2 rfl
        have hr := run_endRound (P := P) (some .ret) hl3
        rw [hrc] at hr
        refine ⟨_, _, hr, .inr ⟨hs, rfl, hJx _ _ _ _ _ (by omega) hl3 rfl hj3, ?_, ?_⟩⟩
        · rw [hrc]; exact World.putObj_heap_same (Array.getElem?_eq_some_iff.1 hl3).1
        · exact (World.putObj_heap_other (by omega)).trans (hk3.same _ _ hk2 rfl)
    · rintro e W2 ⟨⟨v, rfl⟩, (⟨hb2, hf2⟩ | ⟨x, hs, hj, hl, hk⟩)⟩
      · have hl : W2.heap[w.heap.size + 1]? = some (.loop (rc .ready none)) := (hb2.block _ hl1).trans hL1
        have hk : W2.heap[w.heap.size]? = some (.deferred (some [])) := (hb2.block _ (by omega)).trans hK1
        have he := run_endLoop (P := P) hl (by rw [hrc]; simp)
        rw [hrc] at he
        refine ⟨none, _, he, hdone _ _ (Nat.le_refl _) ?_ (hFd _ _ _ _ (by omega) hl rfl hf2) ((World.putObj_heap_other (by omega)).trans hk)⟩
        exact (hB1.trans (hb2.mono hB1.size)).trans ⟨rfl, rfl, rfl, by simp [World.putObj], fun k hk => World.putObj_heap_other (by omega)⟩
      · have he := run_endLoop (P := P) hl (by rw [hrc]; simp)
        rw [hrc] at he
        exact ⟨some .ret, _, he, wpIn_ret (hstop _ x _ (Nat.le_refl _) hs (hJx _ _ _ _ _ (by omega) hl rfl hj) ((World.putObj_heap_other (by omega)).trans hk))⟩

theorem RoundIn.anyDepth_ {F : Fence} (hd : F.depth = none) {m m' : Nat} {P : Program} {l : Nat} {f : FuncId} {tmps : Array Value} {assign body : Code} {w : World} {R : Ending → World → Prop}
    (h : RoundIn F m P l f tmps assign body w R) : RoundIn F m' P l f tmps assign body w R := ⟨h.1, fun c cs _ => h.2 c cs (by intro d hd2; rw [hd] at hd2; cases hd2)⟩
theorem YieldAt.anyDepth_ {F : Fence} (hd : F.depth = none) {m : Nat} (m' : Nat) {P : Program} {l : Nat} {args : Array Value} {W : World} {R : Ending → World → Prop} (h : YieldAt F m P l args W R) : YieldAt F m' P l args W R := by
  obtain ⟨fn, tmps, assign, body, hy, hR⟩ := h
  exact ⟨fn, tmps, assign, body, hy, RoundIn.anyDepth_ hd hR⟩

end Go.Proofs.Ytlhjfblpinpjiaa

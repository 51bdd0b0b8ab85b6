/- A range over a function whose rounds are handed what they know of the world: the body goes on, or returns. The search's orders: the function that calls itself, and yields. Search. Search: the function. -/
import Derived.Test.YtlhjfblpinpjiaaProg
import Derived.RangeFuncNested
import Derived.RangeFuncBound
import Derived.RangeFuncCalls
import Derived.RangeFuncLeaves
import Derived.WalkKit
import Derived.OwnWalkIn
import Derived.TacticsInMore
import Derived.LoopNIn
import Derived.LoopIn
import Derived.Deep.Draws
import Derived.Test.YtlhjfblpinpjiaaF3
import Derived.Deep.Cut
import Derived.Laws.EntriesVeiled
set_option linter.unusedVariables false
set_option linter.unusedSimpArgs false
namespace Go.Proofs.Ytlhjfblpinpjiaa
open Go.RowKit

theorem below_round {w1 wb w3 : World} {l : Nat} {o ob : Obj} (h : w1.heap[l]? = some o) (hwb : wb = w1.putObj l ob) (h3 : Below wb.heap.size wb w3) : Below w1.heap.size w1 (w3.putObj l o) := by
  have hl : l < w1.heap.size := (Array.getElem?_eq_some_iff.1 h).1
  have hs : wb.heap.size = w1.heap.size := by rw [hwb]; simp [World.putObj]
  have hsz := h3.size
  refine ⟨by have := h3.os; rw [hwb] at this; exact this, by have := h3.tape; rw [hwb] at this; exact this, by have := h3.output; rw [hwb] at this; exact this, ?_, fun k hk => ?_⟩
  · have : (w3.putObj l o).heap.size = w3.heap.size := by simp [World.putObj]
    omega
  · by_cases e : k = l
    · subst e
      rw [h]
      exact World.putObj_heap_same (by omega)
    · rw [World.putObj_heap_other e, h3.block k (by omega), hwb, World.putObj_heap_other e]

/-- **'for x := range seq { if .. { return } }'**: what a round may know of what it is handed is Pr; it returns where Stop holds, leaving Jx. -/
theorem range_stop {F : Fence} {n : Nat} {P : Program} {α : Type} {g : Operand} {ps : Array Tmp} {assign body : Code} {Q : Exit → Act → World → Prop} {a : Act} {w : World}
    (hro : F.round = none) (h1 : 1 ≤ n) {gf : Nat} {lb : Array Value} (hg : a.eval g = .func (.func gf) #[] lb) (hFg : F.fn gf) (eg : ∀ args w, (callFunc gf args).run P w = .ok (.enter gf args) w)
    {encs : α → Array Value} (hps : ∀ x, (encs x).size = ps.size) (Pr : α → World → Prop) (Stop : α → Prop) (Jx : α → World → Prop) (Found : World → Prop) (Got : α → Prop)
    (hPr : ∀ x W l o o', w.heap.size ≤ l → W.heap[l]? = some o → o.isCells = false → Pr x W → Pr x (W.putObj l o'))
    (hJx : ∀ x W l o o', w.heap.size ≤ l → W.heap[l]? = some o → o.isCells = false → Jx x W → Jx x (W.putObj l o'))
    (hJd : ∀ x W q, Jx x W → Jx x (W.drewN q))
    (hseq : ∀ (l : Nat) (W : World) (D : α → World → Prop), w.heap.size ≤ l → l < W.heap.size → Below w.heap.size w W → (∀ x W1 q, D x W1 → D x (W1.drewN q)) →
      (∀ x W1, Below W.heap.size W W1 → Pr x W1 → YieldAt F (n - 1 - 1) P l (encs x) W1 fun e W' => (¬ Stop x ∧ e = .returned (.bool true) ∧ Below W1.heap.size W1 W') ∨ (Stop x ∧ e = .returned (.bool false) ∧ D x W')) →
      CallsIn F (n - 1) P gf (#[.func (.yield l) #[] #[]] ++ lb) W fun e W' => (∃ v, e = .returned v) ∧ ((Below W.heap.size W W' ∧ Found W') ∨ ∃ x, Got x ∧ D x W'))
    (hFd : ∀ W l o o', w.heap.size ≤ l → W.heap[l]? = some o → o.isCells = false → Found W → Found (W.putObj l o'))
    (a₁ : α → Act)
    (hassign : ∀ (l : Nat) (x : α) (W : World) (K : Act → World → Prop), K (a₁ x) W →
      assign.wpIn (F.inRound l) (n - 1 - 1) P (Exit.then K (fun _ _ _ => False)) { tmps := (ps.zip (encs x)).foldl (fun t (p, v) => t.setIfInBounds p v) a.tmps, defers := [] } W)
    (hbody : ∀ (l : Nat) (x : α) (W : World), w.heap.size ≤ l → Below w.heap.size w W → Pr x W →
      body.wpIn (F.inRound l) (n - 1 - 1) P (fun e _ W' => (¬ Stop x ∧ e = .normal ∧ Below W.heap.size W W') ∨ (Stop x ∧ e = .ret ∧ KeepsOthers W W' ∧ Jx x W')) (a₁ x) W)
    (hdone : ∀ (D : Nat) (W : World), w.heap.size ≤ D → Below w.heap.size w W → Found W → W.heap[D]? = some (.deferred (some [])) → Q .normal { a with defers := { target := .collected D, args := #[] } :: a.defers } W)
    (hstop : ∀ (D : Nat) (x : α) (W : World), w.heap.size ≤ D → Got x → Jx x W → W.heap[D]? = some (.deferred (some [])) → Q .ret { a with defers := { target := .collected D, args := #[] } :: a.defers } W) :
    (Code.rangeFunc g ps assign body).wpIn F n P Q a w := by
  refine wpIn_rangeFunc ?_
  intro fn hfn
  rw [hro]
  obtain ⟨rc, hrc⟩ : ∃ rc : LoopState → Option Code → Loop, rc = fun st pe => { state := st, pending := pe, fn, tmps := a.tmps, params := ps, assign, body, defers := w.heap.size } := ⟨_, rfl⟩
  obtain ⟨W1, hW1⟩ : ∃ W1, (w.alloc (.deferred (some []))).alloc (.loop (rc .ready none)) = W1 := ⟨_, rfl⟩
  have hL1 : W1.heap[w.heap.size + 1]? = some (.loop (rc .ready none)) := by
    rw [← hW1]
    have := World.alloc_heap_new (w.alloc (.deferred (some []))) (.loop (rc .ready none))
    rwa [World.size_alloc] at this
  have hK1 : W1.heap[w.heap.size]? = some (.deferred (some [])) := by
    rw [← hW1]
    exact (Below.heap_alloc _ _ _ (by simp)).trans (World.alloc_heap_new w _)
  have hB1 : Below w.heap.size w W1 := by
    rw [← hW1]
    exact ((Below.refl _ w).alloc (Nat.le_refl _) _).alloc (by simp) _
  have hl1 : w.heap.size + 1 < W1.heap.size := (Array.getElem?_eq_some_iff.1 hL1).1
  refine ⟨w.heap.size + 1, [{ target := .collected w.heap.size, args := #[] }], W1, { target := .fn (.func gf) lb, args := #[.func (.yield (w.heap.size + 1)) #[] #[]] }, W1, gf,
    #[.func (.yield (w.heap.size + 1)) #[] #[]] ++ lb, W1, ?_, ?_, ?_, ?_, fun _ => h1, ?_⟩
  · rw [← hW1, hrc]; exact run_enterLoop_outer _ _ _ _ _
  · simp only [resolve, hg]
    simp [go_sem]
  · intro f' hf'
    simp [Target.leads] at hf'
    subst hf'
    exact hFg
  · simp [invoke, go_sem, eg]
  · refine (hseq (w.heap.size + 1) W1 (fun x W => Jx x W ∧ W.heap[w.heap.size + 1]? = some (.loop (rc .done (some .ret))) ∧ W.heap[w.heap.size]? = some (.deferred (some []))) (by omega) hl1 hB1
      (fun x W q h => ⟨hJd x W q h.1, h.2⟩) ?_).mono ?_
    · intro x W hbW hx
      have hl : W.heap[w.heap.size + 1]? = some (.loop (rc .ready none)) := (hbW.block _ hl1).trans hL1
      have hk : W.heap[w.heap.size]? = some (.deferred (some [])) := (hbW.block _ (by omega)).trans hK1
      have hlt : w.heap.size + 1 < W.heap.size := (Array.getElem?_eq_some_iff.1 hl).1
      have hy := run_yield (P := P) (args := encs x) hl (by rw [hrc]; exact hps x)
      rw [hrc] at hy
      refine ⟨fn, _, assign, body, hy, roundIn_of_wpIn hfn (hassign _ x W _ ⟨_, run_beginRound hl (by rw [hrc]), ?_⟩)⟩
      obtain ⟨Wb, hWb⟩ : ∃ Wb, W.putObj (w.heap.size + 1) (.loop { rc .ready none with state := .busy }) = Wb := ⟨_, rfl⟩
      have hl2 : Wb.heap[w.heap.size + 1]? = some (.loop { rc .ready none with state := .busy }) := by rw [← hWb]; exact World.putObj_heap_same hlt
      have hk2 : Wb.heap[w.heap.size]? = some (.deferred (some [])) := by rw [← hWb]; exact (World.putObj_heap_other (by omega)).trans hk
      have hb2 : Below w.heap.size w Wb := by
        have h3 : Below w.heap.size w W := hB1.trans (hbW.mono hB1.size)
        rw [← hWb]
        exact h3.trans ⟨rfl, rfl, rfl, by simp [World.putObj], fun k hk => World.putObj_heap_other (by omega)⟩
      rw [hWb]
      refine wpIn_mono (hbody _ x Wb (by omega) hb2 (by rw [← hWb]; exact hPr _ _ _ _ _ (by omega) hl rfl hx)) ?_
      rintro e a3 W3 (⟨hns, rfl, hb3⟩ | ⟨hs, rfl, hk3, hj3⟩)
      · have hl3 : W3.heap[w.heap.size + 1]? = some (.loop { rc .ready none with state := .busy }) := (hb3.block _ (Array.getElem?_eq_some_iff.1 hl2).1).trans hl2
        have hr := run_endRound (P := P) none hl3
        rw [hrc] at hr
        refine ⟨_, _, hr, .inl ⟨hns, rfl, ?_⟩⟩
        have := below_round hl hWb.symm hb3
        rw [hrc] at this
        exact this
      · have hl3 := hk3.same _ _ hl2 rfl
        have hr := run_endRound (P := P) (some .ret) hl3
        rw [hrc] at hr
        refine ⟨_, _, hr, .inr ⟨hs, rfl, hJx _ _ _ _ _ (by omega) hl3 rfl hj3, ?_, ?_⟩⟩
        · rw [hrc]; exact World.putObj_heap_same (Array.getElem?_eq_some_iff.1 hl3).1
        · exact (World.putObj_heap_other (by omega)).trans (hk3.same _ _ hk2 rfl)
    · rintro e W2 ⟨⟨v, rfl⟩, (⟨hb2, hf2⟩ | ⟨x, hs, hj, hl, hk⟩)⟩
      · have hl : W2.heap[w.heap.size + 1]? = some (.loop (rc .ready none)) := (hb2.block _ hl1).trans hL1
        have hk : W2.heap[w.heap.size]? = some (.deferred (some [])) := (hb2.block _ (by omega)).trans hK1
        have he := run_endLoop (P := P) hl (by rw [hrc]; simp)
        rw [hrc] at he
        refine ⟨none, _, he, hdone _ _ (Nat.le_refl _) ?_ (hFd _ _ _ _ (by omega) hl rfl hf2) ((World.putObj_heap_other (by omega)).trans hk)⟩
        exact (hB1.trans (hb2.mono hB1.size)).trans ⟨rfl, rfl, rfl, by simp [World.putObj], fun k hk => World.putObj_heap_other (by omega)⟩
      · have he := run_endLoop (P := P) hl (by rw [hrc]; simp)
        rw [hrc] at he
        exact ⟨some .ret, _, he, wpIn_ret (hstop _ x _ (Nat.le_refl _) hs (hJx _ _ _ _ _ (by omega) hl rfl hj) ((World.putObj_heap_other (by omega)).trans hk))⟩

theorem RoundIn.anyDepth_ {F : Fence} (hd : F.depth = none) {m m' : Nat} {P : Program} {l : Nat} {f : FuncId} {tmps : Array Value} {assign body : Code} {w : World} {R : Ending → World → Prop}
    (h : RoundIn F m P l f tmps assign body w R) : RoundIn F m' P l f tmps assign body w R := ⟨h.1, fun c cs _ => h.2 c cs (by intro d hd2; rw [hd] at hd2; cases hd2)⟩
theorem YieldAt.anyDepth_ {F : Fence} (hd : F.depth = none) {m : Nat} (m' : Nat) {P : Program} {l : Nat} {args : Array Value} {W : World} {R : Ending → World → Prop} (h : YieldAt F m P l args W R) : YieldAt F m' P l args W R := by
  obtain ⟨fn, tmps, assign, body, hy, hR⟩ := h
  exact ⟨fn, tmps, assign, body, hy, RoundIn.anyDepth_ hd hR⟩


/-- An order that is handed out: its words, and what is read there. -/
structure OrdV where
  A : Option Addr
  n : Nat
  c : Nat
  os : List Int
def OrdV.val (x : OrdV) : Value := .slice x.A x.n x.c
def OrdV.In (base : Nat) (x : OrdV) (w : World) : Prop := Ints base w x.A x.n x.c x.os
/-- What the search's closures have captured. -/
structure StF (base bn bw bf hb : Nat) (w : World) (A : Option Addr) (n c : Nat) (hs : List CallR) : Prop where
  cn : w.cell? ⟨bn, 0, none⟩ = some (.int .i64 n)
  cw : w.cell? ⟨bw, 0, none⟩ = some (.func (.func 28) #[] #[.pointer (some ⟨hb, 0, none⟩)])
  cf : w.cell? ⟨bf, 0, none⟩ = some (.func (.func 48) #[] #[.pointer (some ⟨bn, 0, none⟩), .pointer (some ⟨bw, 0, none⟩), .pointer (some ⟨bf, 0, none⟩)])
  ch : w.cell? ⟨hb, 0, none⟩ = some (.slice A n c)
  ln : bn < w.heap.size
  lw : bw < w.heap.size
  lf : bf < w.heap.size
  lh : hb < w.heap.size
  hist : Hist base w A n c hs
theorem StF.below {base bn bw bf hb : Nat} {w w' : World} {A : Option Addr} {n c : Nat} {hs : List CallR} (h : StF base bn bw bf hb w A n c hs) (hB : Below w.heap.size w w') : StF base bn bw bf hb w' A n c hs :=
  ⟨(hB.cell (p := ⟨bn, 0, none⟩) h.ln).trans h.cn, (hB.cell (p := ⟨bw, 0, none⟩) h.lw).trans h.cw, (hB.cell (p := ⟨bf, 0, none⟩) h.lf).trans h.cf, (hB.cell (p := ⟨hb, 0, none⟩) h.lh).trans h.ch,
    Nat.lt_of_lt_of_le h.ln hB.size, Nat.lt_of_lt_of_le h.lw hB.size, Nat.lt_of_lt_of_le h.lf hB.size, Nat.lt_of_lt_of_le h.lh hB.size, h.hist.below hB⟩
def FromPost (hs : List CallR) (D : OrdV → World → Prop) (w : World) (r : Option (List Int)) (e : Ending) (w' : World) : Prop :=
  (r = none ∧ e = .returned (.bool true) ∧ Below w.heap.size w w') ∨ (∃ os, r = some os ∧ e = .returned (.bool false) ∧ ∃ x : OrdV, x.os = os ∧ judgeP hs x.os = (0, 0) ∧ D x w')
theorem own_ge {w : World} {own T k n : Nat} {v : Value} {xs : List Value} (h : w.ownsRow own T k v n xs) {j : Nat} (hj : v.ownBlock = some j) : own ≤ j := by
  rcases h.2 with ⟨rfl, _⟩ | ⟨g, cap, cur, rfl, hb, _⟩
  · cases hj
  · simp [Value.ownBlock] at hj
    omega

set_option maxHeartbeats 16000000 in
set_option maxRecDepth 100000 in
theorem from_step {base bn bw bf hb l : Nat} {W0 : World} {A : Option Addr} {n c : Nat} {hs : List CallR} {D : OrdV → World → Prop}
    (hS : StF base bn bw bf hb W0 A n c hs) (hbs : base ≤ W0.heap.size) (hn7 : n ≤ 7) (hDd : ∀ x W q, D x W → D x (W.drewN q))
    (hY : ∀ (m : Nat) (x : OrdV) (W1 : World), Below W0.heap.size W0 W1 → x.In base W1 → YieldAt Fence.wide m Try.prog l #[x.val] W1 fun e W' => (¬ judgeP hs x.os = (0, 0) ∧ e = .returned (.bool true) ∧ Below W1.heap.size W1 W') ∨ (judgeP hs x.os = (0, 0) ∧ e = .returned (.bool false) ∧ D x W'))
    (d : Nat) (ih : ∀ d', d = d' + 1 → ∀ (W : World) (B : Option Addr) (k cb : Nat) (os : List Int), Below W0.heap.size W0 W → Ints base W B k cb os → AllIn hs os → freeN n os ≤ d' → k + d' ≤ 8 →
      Calls Try.prog 48 #[.slice B k cb, .func (.yield l) #[] #[], .pointer (some ⟨bn, 0, none⟩), .pointer (some ⟨bw, 0, none⟩), .pointer (some ⟨bf, 0, none⟩)] W (FromPost hs D W (findC hs d' os)))
    (W : World) (B : Option Addr) (k cb : Nat) (os : List Int) (hB0 : Below W0.heap.size W0 W) (ho : Ints base W B k cb os) (hai : AllIn hs os) (hfr : freeN n os ≤ d) (hkd : k + d ≤ 8) :
    Calls Try.prog 48 #[.slice B k cb, .func (.yield l) #[] #[], .pointer (some ⟨bn, 0, none⟩), .pointer (some ⟨bw, 0, none⟩), .pointer (some ⟨bf, 0, none⟩)] W (FromPost hs D W (findC hs d os)) := by
  have hd1 : ∀ m, (Fence.wide.depth.isSome = true → 1 ≤ m) := fun m h => by cases h
  by_cases hz : judgeP hs os = (0, 0)
  · obtain ⟨fn, tmps, assign, body, hy, hR⟩ := hY 2 ⟨B, k, cb, os⟩ W hB0 ho
    have hR2 := hR.mono (R' := fun e W' => e = .returned (.bool false) ∧ D ⟨B, k, cb, os⟩ W') (by
      rintro e W' (⟨h, _⟩ | ⟨_, h1, h2⟩)
      · exact absurd hz h
      · exact ⟨h1, h2⟩)
    have Z := Asd.mk hz
    rw [findC_yes d hz]
    unfold OrdV.val at hy
    simp only at hy
    clear hY ih hS hDd hR hz ho hai hfr hB0
    go_enter Try.func48, Try.ntmps48
    go_upto_region 1 with fail
    refine (wpIn_wide (n := 3)).1 ?_
    gi_wp2_with (first | (refine ⟨hd1 _, ?_⟩; refine hR2.mono ?_; rintro e W1 ⟨rfl, hD1⟩) | (refine hR2.mono ?_; rintro e W1 ⟨rfl, hD1⟩))
    go_wp2_with fail
    go_ret
    exact .inr ⟨_, rfl, rfl, _, rfl, Z.out, hD1⟩
  · obtain ⟨fn, tmps, assign, body, hy, hR⟩ := hY 2 ⟨B, k, cb, os⟩ W hB0 ho
    have hR2 := hR.mono (R' := fun e W' => e = .returned (.bool true) ∧ Below W.heap.size W W') (by
      rintro e W' (⟨_, h1, h2⟩ | ⟨h, _⟩)
      · exact ⟨h1, h2⟩
      · exact absurd h hz)
    rw [findC_no d hz]
    unfold OrdV.val at hy
    simp only at hy
    have hk := ho.len
    have hnl := hS.hist.len
    have hSW := hS.below hB0
    have S := Asd.mk (fun Wx (h : Below W.heap.size W Wx) => hSW.below h)
    have O := Asd.mk (fun Wx (h : Below W.heap.size W Wx) => ho.below h)
    have IH : Asd (∀ d', d = d' + 1 → ∀ Wx, Below W.heap.size W Wx → ∀ (B : Option Addr) (k cb : Nat) (os : List Int), Ints base Wx B k cb os → AllIn hs os → freeN n os ≤ d' → k + d' ≤ 8 →
      Calls Try.prog 48 #[.slice B k cb, .func (.yield l) #[] #[], .pointer (some ⟨bn, 0, none⟩), .pointer (some ⟨bw, 0, none⟩), .pointer (some ⟨bf, 0, none⟩)] Wx (FromPost hs D Wx (findC hs d' os))) :=
      ⟨fun d' e Wx h B k cb os h1 h2 h3 h4 => ih d' e Wx B k cb os (hB0.trans (h.mono hB0.size)) h1 h2 h3 h4⟩
    have WC : Asd (∀ Wx, Below W.heap.size W Wx → ∀ (B : Option Addr) (k cb : Nat) (os : List Int), Ints base Wx B k cb os → AllIn hs os →
      Calls Try.prog 28 #[.slice B k cb, .pointer (some ⟨hb, 0, none⟩)] Wx fun e w' => e = .returned (.bool (wrongP hs os)) ∧ Below Wx.heap.size Wx w') :=
      ⟨fun Wx h B k cb os h1 h2 => wrong_calls (S.out Wx h).ch (S.out Wx h).lh (S.out Wx h).hist h1 h2 (Nat.le_trans (Nat.le_trans hbs hB0.size) h.size)⟩
    have N := Asd.mk hnl
    have K := Asd.mk hk
    have AI := Asd.mk hai
    have FR := Asd.mk hfr
    have KD := Asd.mk hkd
    have HB := Asd.mk (Nat.le_trans hbs hB0.size)
    clear hY ih hS hSW hDd hR hz ho hai hfr hB0 hk hnl hkd hbs
    generalize hr : tryI (stepC hs d os) hs.length = r
    have R := Asd.mk hr
    clear hr
    have nc := fun x h => (S.out x h).cn
    go_enter Try.func48, Try.ntmps48
    go_upto_region 1 with fail
    refine (wpIn_wide (n := 3)).1 ?_
    gi_wp2_with (first | (refine ⟨hd1 _, ?_⟩; refine hR2.mono ?_; rintro e W1 ⟨rfl, hb1⟩) | (refine hR2.mono ?_; rintro e W1 ⟨rfl, hb1⟩))
    have cn1 := nc _ hb1
    have B1 := Asd.mk hb1
    clear hb1 nc hy hR2
    go_wp2_with fail
    go_loopw [15] (fun s15 wr => ∃ i : Nat, s15 = .int .i64 i ∧ i ≤ n ∧ Asd (Below W.heap.size W wr) ∧ Asd (∀ j, j < i → stepC hs d os j = none)) (fun s15 _ => n - (intOf s15).toNat)
    case atStart => exact ⟨0, rfl, Nat.zero_le _, B1, ⟨fun j hj => absurd hj (Nat.not_lt_zero _)⟩⟩
    case round =>
      obtain ⟨i, rfl, hin, BW, I⟩ := hrel
      by_cases hlt : i < n
      · have hhit : ∀ x, stepC hs d os i = some x → r = some x := fun x e => R.out.symm.trans (tryI_hit (by have := N.out; omega) e I.out)
        have hnx : stepC hs d os i = none → ∀ j, j < i + 1 → stepC hs d os j = none := fun e j hj => by
          rcases Nat.lt_or_ge j i with h1 | h1
          · exact I.out j h1
          · obtain rfl : j = i := by omega
            exact e
        have HIT := Asd.mk hhit
        have NX := Asd.mk hnx
        clear hhit hnx
        have hcl := Clone_int wr B k cb _ (O.out wr BW.out).rd (intCs_one os) (by have := KD.out; omega)
        have OWr := Asd.mk (O.out wr BW.out)
        go_wp2_with fail
        refine hcl.mono ?_
        clear hcl
        rintro e w1 ⟨A1, c1, rfl, hR1, hO1, hb1⟩
        have O1 := Asd.mk hO1
        have BA := Asd.mk hb1
        clear hR1 hO1 hb1
        go_wp2_with (at_builtin; refine wpList_append_mine (base := base) (own := wr.heap.size) (v := .slice A1 k c1) (n := k) (m := 1) (xs := intCs os) (ys := [.int .i64 i]) rfl (.tmp 19) (.tmp 21) 24 rfl elt_i rfl rfl (O1.out.alloc _) (Rd.new_ rfl rfl) (fun u hu => by simp at hu; subst hu; rfl) (by have := KD.out; simp only [maxLen]; omega) (by have := KD.out; omega) (by have := BA.out.size; simp; omega) ?_; intro v' w2 hO2 hG2; obtain ⟨A2, c2, rfl, hR2⟩ := Rd.of_own (base := base) hO2)
        have hb2 : Below wr.heap.size wr w2 := (BA.out.alloc BA.out.size _).grown hG2 (by have := BA.out.size; simp; omega) (fun j hj => own_ge O1.out hj)
        have B2 := Asd.mk (BW.out.trans (hb2.mono BW.out.size))
        have X2 : Asd (Ints base w2 A2 (k + 1) c2 (os ++ [(i : Int)])) := ⟨⟨by have := hR2; unfold intCs at this; rw [List.flatMap_append]; exact this, by have := KD.out; omega⟩⟩
        have hk2 := Contains_int w2 B k cb os (i : Int) (O.out w2 B2.out)
        clear O1 BA hO2 hG2 hR2 hb2 OWr
        by_cases hm : (i : Int) ∈ os
        · have hk3 := hk2 true (decide_eq_true hm)
          have NX2 := Asd.mk (NX.out (stepC_in hm))
          clear hk2 hm HIT NX
          refine hk3.mono ?_
          clear hk3
          rintro e w3 ⟨rfl, hb3⟩
          have B3 := Asd.mk (B2.out.trans (hb3.mono B2.out.size))
          clear hb3
          go_wp2_with fail
          go_roundw
          case measure => simp [intOf]; omega
          case rel => exact ⟨i + 1, by go_num, by omega, B3, NX2⟩
        · have hk3 := hk2 false (decide_eq_false hm)
          have hai2 : AllIn hs (os ++ [(i : Int)]) := by
            intro o ho
            rcases List.mem_append.1 ho with h | h
            · exact AI.out o h
            · rw [List.mem_singleton.1 h]
              have := N.out
              omega
          have AI2 := Asd.mk hai2
          have hd0 : 0 < d := Nat.lt_of_lt_of_le (freeN_pos hlt hm) FR.out
          obtain ⟨d', rfl⟩ : ∃ d', d = d' + 1 := ⟨d - 1, by omega⟩
          have FR2 : Asd (freeN n (os ++ [(i : Int)]) ≤ d') := ⟨by have := freeN_snoc hlt hm; have := FR.out; omega⟩
          have SC := Asd.mk (fun h => stepC_wrong (hs := hs) (d := d' + 1) hm h)
          have SG := Asd.mk (fun h => stepC_go (hs := hs) (d := d') hm h)
          clear hk2 hm hai2 hd0
          refine hk3.mono ?_
          clear hk3
          rintro e w3 ⟨rfl, hb3⟩
          have X3 := Asd.mk (X2.out.below hb3)
          have B3 := Asd.mk (B2.out.trans (hb3.mono B2.out.size))
          clear hb3
          have s3 := (S.out w3 B3.out).cw
          have wc := WC.out w3 B3.out A2 (k + 1) c2 _ X3.out AI2.out
          cases hw : wrongP hs (os ++ [(i : Int)]) with
          | true =>
            rw [hw] at wc
            have NX2 := Asd.mk (NX.out (SC.out hw))
            clear hw SC SG
            go_wp2_with fail
            refine wc.mono ?_
            clear wc
            rintro e w4 ⟨rfl, hb4⟩
            have B4 := Asd.mk (B3.out.trans (hb4.mono B3.out.size))
            clear hb4
            go_wp2_with fail
            go_roundw
            case measure => simp [intOf]; omega
            case rel => exact ⟨i + 1, by go_num, by omega, B4, NX2⟩
          | false =>
            rw [hw] at wc
            have SG2 := Asd.mk (SG.out hw)
            clear hw SC SG
            go_wp2_with fail
            refine wc.mono ?_
            clear wc
            rintro e w4 ⟨rfl, hb4⟩
            have X4 := Asd.mk (X3.out.below hb4)
            have B4 := Asd.mk (B3.out.trans (hb4.mono B3.out.size))
            clear hb4
            have s4 := (S.out w4 B4.out).cf
            have fc := IH.out d' rfl w4 B4.out A2 (k + 1) c2 _ X4.out AI2.out FR2.out (by have := KD.out; omega)
            generalize hq : findC hs d' (os ++ [(i : Int)]) = q at fc
            have Q := Asd.mk hq
            clear hq
            go_wp2_with fail
            refine fc.mono ?_
            clear fc
            rintro e w5 (⟨rfl, rfl, hb5⟩ | ⟨os2, rfl, rfl, x, rfl, hx, hD⟩)
            · have B5 := Asd.mk (B4.out.trans (hb5.mono B4.out.size))
              have NX2 := Asd.mk (NX.out (SG2.out.trans Q.out))
              clear hb5
              go_wp2_with fail
              go_roundw
              case measure => simp [intOf]; omega
              case rel => exact ⟨i + 1, by go_num, by omega, B5, NX2⟩
            · have HT := Asd.mk (HIT.out _ (SG2.out.trans Q.out))
              have XX := Asd.mk hx
              have DD := Asd.mk hD
              clear hx hD
              go_wp2_with fail
              go_ret
              exact .inr ⟨_, HT.out, rfl, x, rfl, XX.out, DD.out⟩
      · have RN : Asd (r = none) := ⟨R.out.symm.trans (tryI_none fun j hj => I.out j (by have := N.out; omega))⟩
        clear I
        go_wp2_with fail
        go_ret
        exact .inl ⟨RN.out, rfl, BW.out⟩

attribute [local go_sem] Oper.semAt_some

theorem from_calls {base bn bw bf hb l : Nat} {W0 : World} {A : Option Addr} {n c : Nat} {hs : List CallR} {D : OrdV → World → Prop}
    (hS : StF base bn bw bf hb W0 A n c hs) (hbs : base ≤ W0.heap.size) (hn7 : n ≤ 7) (hDd : ∀ x W q, D x W → D x (W.drewN q))
    (hY : ∀ (m : Nat) (x : OrdV) (W1 : World), Below W0.heap.size W0 W1 → x.In base W1 → YieldAt Fence.wide m Try.prog l #[x.val] W1 fun e W' => (¬ judgeP hs x.os = (0, 0) ∧ e = .returned (.bool true) ∧ Below W1.heap.size W1 W') ∨ (judgeP hs x.os = (0, 0) ∧ e = .returned (.bool false) ∧ D x W'))
    (d : Nat) : ∀ (W : World) (B : Option Addr) (k cb : Nat) (os : List Int), Below W0.heap.size W0 W → Ints base W B k cb os → AllIn hs os → freeN n os ≤ d → k + d ≤ 8 →
    Calls Try.prog 48 #[.slice B k cb, .func (.yield l) #[] #[], .pointer (some ⟨bn, 0, none⟩), .pointer (some ⟨bw, 0, none⟩), .pointer (some ⟨bf, 0, none⟩)] W (FromPost hs D W (findC hs d os)) := by
  induction d with
  | zero =>
    intro W B k cb os h1 h2 h3 h4 h5
    exact from_step hS hbs hn7 hDd hY 0 (fun d' e => by omega) W B k cb os h1 h2 h3 h4 h5
  | succ d ih =>
    intro W B k cb os h1 h2 h3 h4 h5
    refine from_step hS hbs hn7 hDd hY (d + 1) (fun d' e => ?_) W B k cb os h1 h2 h3 h4 h5
    obtain rfl : d = d' := by omega
    exact ih

theorem ints_nil (base : Nat) (w : World) : Ints base w none 0 0 [] := ⟨Rd.none_, by omega⟩

set_option maxHeartbeats 4000000 in
theorem orders2_calls {base bn bw bf hb l : Nat} {W0 : World} {A : Option Addr} {n c : Nat} {hs : List CallR} {D : OrdV → World → Prop}
    (hS : StF base bn bw bf hb W0 A n c hs) (hbs : base ≤ W0.heap.size) (hn7 : n ≤ 7) (hDd : ∀ x W q, D x W → D x (W.drewN q))
    (hY : ∀ (m : Nat) (x : OrdV) (W1 : World), Below W0.heap.size W0 W1 → x.In base W1 → YieldAt Fence.wide m Try.prog l #[x.val] W1 fun e W' => (¬ judgeP hs x.os = (0, 0) ∧ e = .returned (.bool true) ∧ Below W1.heap.size W1 W') ∨ (judgeP hs x.os = (0, 0) ∧ e = .returned (.bool false) ∧ D x W')) :
    Calls Try.prog 51 #[.func (.yield l) #[] #[], .pointer (some ⟨bf, 0, none⟩)] W0 fun e W' => (∃ v, e = .returned v) ∧
      ((Below W0.heap.size W0 W' ∧ findC hs n [] = none) ∨ ∃ x : OrdV, (findC hs n [] = some x.os ∧ judgeP hs x.os = (0, 0)) ∧ D x W') := by
  have fc := Asd.mk (from_calls hS hbs hn7 hDd hY n W0 none 0 0 [] (Below.refl _ _) (ints_nil _ _) (fun o ho => by cases ho) (freeN_nil n) (by omega))
  have s0 := hS.cf
  clear hY hDd
  generalize hq : findC hs n [] = q at fc
  have Q := Asd.mk hq
  clear hq hS
  go_enter Try.func51, Try.ntmps51
  go_wp2_with fail
  refine fc.out.mono ?_
  rintro e w1 (⟨rfl, rfl, hb1⟩ | ⟨os, rfl, rfl, x, rfl, hx, hD⟩)
  · go_wp2_with fail
    go_end0
    exact ⟨⟨_, rfl⟩, hb1⟩
  · go_wp2_with fail
    go_end0
    exact ⟨⟨_, rfl⟩, .inr ⟨x, ⟨rfl, hx⟩, hD⟩⟩

set_option maxHeartbeats 4000000 in
theorem orders_calls (n : Nat) (hb : Nat) (w : World) :
    Calls Try.prog 31 #[.int .i64 n, .func (.func 28) #[] #[.pointer (some ⟨hb, 0, none⟩)]] w fun e w' =>
      e = .returned (.func (.func 51) #[] #[.pointer (some ⟨w.heap.size + 1 + 1, 0, none⟩)]) ∧ Below w.heap.size w w' ∧ w'.heap.size = w.heap.size + 3 ∧
        w'.cell? ⟨w.heap.size, 0, none⟩ = some (.int .i64 n) ∧ w'.cell? ⟨w.heap.size + 1, 0, none⟩ = some (.func (.func 28) #[] #[.pointer (some ⟨hb, 0, none⟩)]) ∧
        w'.cell? ⟨w.heap.size + 1 + 1, 0, none⟩ = some (.func (.func 48) #[] #[.pointer (some ⟨w.heap.size, 0, none⟩), .pointer (some ⟨w.heap.size + 1, 0, none⟩), .pointer (some ⟨w.heap.size + 1 + 1, 0, none⟩)]) := by
  go_enter Try.func31, Try.ntmps31
  go_upto_region 2 with fail
  obtain ⟨W1, hW1⟩ : ∃ W1, w.alloc (.cells #[.int .i64 n] 3) = W1 := ⟨_, rfl⟩
  obtain ⟨W2, hW2⟩ : ∃ W2, W1.alloc (.cells #[.func (.func 28) #[] #[.pointer (some ⟨hb, 0, none⟩)]] 70) = W2 := ⟨_, rfl⟩
  obtain ⟨W3, hW3⟩ : ∃ W3, W2.alloc (.cells #[.nilFunc] 98) = W3 := ⟨_, rfl⟩
  have s1 : W1.heap.size = w.heap.size + 1 := by rw [← hW1]; simp
  have s2 : W2.heap.size = w.heap.size + 1 + 1 := by rw [← hW2]; simp [s1]
  have s3 : W3.heap.size = w.heap.size + 1 + 1 + 1 := by rw [← hW3]; simp [s2]
  have b1 : Below w.heap.size w W1 := by rw [← hW1]; exact (Below.refl _ _).alloc (Nat.le_refl _) _
  have b2 : Below W1.heap.size W1 W2 := by rw [← hW2]; exact (Below.refl _ _).alloc (Nat.le_refl _) _
  have b3 : Below W2.heap.size W2 W3 := by rw [← hW3]; exact (Below.refl _ _).alloc (Nat.le_refl _) _
  have h1 := heap_alloc_new w (.cells #[.int .i64 n] 3)
  have h2 := heap_alloc_new W1 (.cells #[.func (.func 28) #[] #[.pointer (some ⟨hb, 0, none⟩)]] 70)
  have h3 := heap_alloc_new W2 (.cells #[.nilFunc] 98)
  rw [hW1] at h1
  rw [hW2, s1] at h2
  rw [hW3, s2] at h3
  rw [hW1, hW2, hW3]
  have k1 : W3.cell? ⟨w.heap.size, 0, none⟩ = some (.int .i64 n) := (b3.cell (p := ⟨w.heap.size, 0, none⟩) (by simp; omega)).trans ((b2.cell (p := ⟨w.heap.size, 0, none⟩) (by simp; omega)).trans ((cell_of_row _ _ 0 _ _ _ h1).trans rfl))
  have k2 : W3.cell? ⟨w.heap.size + 1, 0, none⟩ = some (.func (.func 28) #[] #[.pointer (some ⟨hb, 0, none⟩)]) := (b3.cell (p := ⟨w.heap.size + 1, 0, none⟩) (by simp; omega)).trans ((cell_of_row _ _ 0 _ _ _ h2).trans rfl)
  have k3 : W3.cell? ⟨w.heap.size + 1 + 1, 0, none⟩ = some .nilFunc := (cell_of_row _ _ 0 _ _ _ h3).trans rfl
  have f3 : W3.frozen? ⟨w.heap.size + 1 + 1, 0, none⟩ = false := by simp [World.frozen?, h3]
  have BB : Asd (Below w.heap.size w W3) := ⟨b1.trans ((b2.mono (by omega)).trans (b3.mono (by omega)))⟩
  have K1 := Asd.mk k1
  have K2 := Asd.mk k2
  have K3 := Asd.mk k3
  have S3 := Asd.mk s3
  clear hW1 hW2 hW3 s1 s2 b1 b2 b3 h1 h2 h3 k1 k2 s3
  go_wp2_with fail

  go_ret
  refine ⟨rfl, BB.out.setCell (by simp; omega) _, by simp [World.setCell, S3.out], ?_, ?_, ?_⟩
  · exact (World.cell?_of_block (Below.heap_setCell _ ⟨w.heap.size + 1 + 1, 0, none⟩ _ _ (by simp; omega))).trans K1.out
  · exact (World.cell?_of_block (Below.heap_setCell _ ⟨w.heap.size + 1 + 1, 0, none⟩ _ _ (by simp))).trans K2.out
  · exact World.cell?_setCell_same' _ _ _ (by rw [K3.out]; rfl)

attribute [local go_sem] Oper.semAt_some

/-- What is found. -/
def searchP (hs : List CallR) : List Int × Bool × Int :=
  if 7 < hs.length then ([], false, 2) else if hs.any (fun x => !x.ok) then ([], false, 80) else match findC hs hs.length [] with
    | some os => (os, true, 0)
    | none => ([], false, 0)
def SearchPost (base : Nat) (w : World) (hs : List CallR) (e : Ending) (w' : World) : Prop :=
  Below w.heap.size w w' ∧ ∃ B k cb, e = .returned (.tuple #[.slice B k cb, .bool (searchP hs).2.1, .int .i64 (searchP hs).2.2]) ∧ Ints base w' B k cb (searchP hs).1
/-- The box of the history and the cells of the results. -/
structure SB (w wr : World) (A : Option Addr) (n c : Nat) (v1 v2 v3 : Value) : Prop where
  below : Below w.heap.size w wr
  c0 : wr.cell? ⟨w.heap.size, 0, none⟩ = some (.slice A n c)
  c1 : wr.cell? ⟨w.heap.size + 1, 0, none⟩ = some v1
  c2 : wr.cell? ⟨w.heap.size + 1 + 1, 0, none⟩ = some v2
  c3 : wr.cell? ⟨w.heap.size + 1 + 1 + 1, 0, none⟩ = some v3
  f1 : wr.frozen? ⟨w.heap.size + 1, 0, none⟩ = false
  f2 : wr.frozen? ⟨w.heap.size + 1 + 1, 0, none⟩ = false
  f3 : wr.frozen? ⟨w.heap.size + 1 + 1 + 1, 0, none⟩ = false
  lt : w.heap.size + 3 < wr.heap.size
  t1 : IsT wr (w.heap.size + 1) 24
  t2 : IsT wr (w.heap.size + 1 + 1) 4
  t3 : IsT wr (w.heap.size + 1 + 1 + 1) 25
section
variable {w wr w' : World} {A : Option Addr} {n c : Nat} {v1 v2 v3 : Value}
theorem SB.keep (h : SB w wr A n c v1 v2 v3) (hb : Below w.heap.size wr w') (hk : ∀ k, k ≤ w.heap.size + 3 → w'.heap[k]? = wr.heap[k]?) : SB w w' A n c v1 v2 v3 := by
  have hl := h.lt
  have hs := hb.size
  exact ⟨h.below.trans hb, (World.cell?_of_block (hk _ (by simp))).trans h.c0, (World.cell?_of_block (hk _ (by simp))).trans h.c1, (World.cell?_of_block (hk _ (by simp))).trans h.c2, (World.cell?_of_block (hk _ (by simp))).trans h.c3,
    (World.frozen?_of_block (hk _ (by simp))).trans h.f1, (World.frozen?_of_block (hk _ (by simp))).trans h.f2, (World.frozen?_of_block (hk _ (by simp))).trans h.f3, by omega, h.t1.of_block (hk _ (by omega)), h.t2.of_block (hk _ (by omega)), h.t3.of_block (hk _ (by omega))⟩
theorem SB.next (h : SB w wr A n c v1 v2 v3) (hb : Below wr.heap.size wr w') : SB w w' A n c v1 v2 v3 :=
  h.keep (hb.mono h.below.size) (fun k hk => hb.block k (by have := h.lt; omega))
theorem SB.put (h : SB w wr A n c v1 v2 v3) {l : Nat} (hl : w.heap.size + 3 < l) (o : Obj) : SB w (wr.putObj l o) A n c v1 v2 v3 :=
  h.keep ⟨rfl, rfl, rfl, by simp [World.putObj], fun k hk => World.putObj_heap_other (by omega)⟩ (fun k hk => World.putObj_heap_other (by omega))
theorem SB.drewN (h : SB w wr A n c v1 v2 v3) (q : Nat) : SB w (wr.drewN q) A n c v1 v2 v3 := h.keep ⟨rfl, rfl, rfl, Nat.le_refl _, fun _ _ => rfl⟩ (fun _ _ => rfl)
theorem SB.stored (h : SB w wr A n c v1 v2 v3) (u1 u2 u3 : Value) : SB w (((wr.setCell ⟨w.heap.size + 1, 0, none⟩ u1).setCell ⟨w.heap.size + 1 + 1, 0, none⟩ u2).setCell ⟨w.heap.size + 1 + 1 + 1, 0, none⟩ u3) A n c u1 u2 u3 := by
  have ne : ∀ (W : World) (a b : Nat) (u : Value), a ≠ b → (W.setCell ⟨b, 0, none⟩ u).cell? ⟨a, 0, none⟩ = W.cell? ⟨a, 0, none⟩ := fun W a b u hab => World.cell?_of_block (Below.heap_setCell W ⟨b, 0, none⟩ u a hab)
  refine ⟨((h.below.setCell (by show w.heap.size ≤ w.heap.size + 1; omega) _).setCell (by show w.heap.size ≤ w.heap.size + 1 + 1; omega) _).setCell (by show w.heap.size ≤ w.heap.size + 1 + 1 + 1; omega) _, ?_, ?_, ?_, ?_, ?_, ?_, ?_, by simp [World.setCell]; exact h.lt, ((h.t1.set _ _).set _ _).set _ _, ((h.t2.set _ _).set _ _).set _ _, ((h.t3.set _ _).set _ _).set _ _⟩
  · rw [ne _ _ _ _ (by omega), ne _ _ _ _ (by omega), ne _ _ _ _ (by omega)]; exact h.c0
  · rw [ne _ _ _ _ (by omega), ne _ _ _ _ (by omega)]
    exact World.cell?_setCell_same' _ _ _ (by rw [h.c1]; rfl)
  · rw [ne _ _ _ _ (by omega)]
    exact World.cell?_setCell_same' _ _ _ (by rw [ne _ _ _ _ (by omega), h.c2]; rfl)
  · exact World.cell?_setCell_same' _ _ _ (by rw [ne _ _ _ _ (by omega), ne _ _ _ _ (by omega), h.c3]; rfl)
  · rw [World.frozen?_setCell, World.frozen?_setCell, World.frozen?_setCell]; exact h.f1
  · rw [World.frozen?_setCell, World.frozen?_setCell, World.frozen?_setCell]; exact h.f2
  · rw [World.frozen?_setCell, World.frozen?_setCell, World.frozen?_setCell]; exact h.f3
end
theorem SB.start (w : World) (A : Option Addr) (n c : Nat) : SB w ((((w.alloc (.cells #[.slice A n c] 22)).alloc (.cells #[.slice none 0 0] 24)).alloc (.cells #[.bool false] 4)).alloc (.cells #[.int .i64 0] 25)) A n c (.slice none 0 0) (.bool false) (.int .i64 0) := by
  obtain ⟨W1, hW1⟩ : ∃ W1, w.alloc (.cells #[.slice A n c] 22) = W1 := ⟨_, rfl⟩
  obtain ⟨W2, hW2⟩ : ∃ W2, W1.alloc (.cells #[.slice none 0 0] 24) = W2 := ⟨_, rfl⟩
  obtain ⟨W3, hW3⟩ : ∃ W3, W2.alloc (.cells #[.bool false] 4) = W3 := ⟨_, rfl⟩
  obtain ⟨W4, hW4⟩ : ∃ W4, W3.alloc (.cells #[.int .i64 0] 25) = W4 := ⟨_, rfl⟩
  have s1 : W1.heap.size = w.heap.size + 1 := by rw [← hW1]; simp
  have s2 : W2.heap.size = w.heap.size + 1 + 1 := by rw [← hW2]; simp [s1]
  have s3 : W3.heap.size = w.heap.size + 1 + 1 + 1 := by rw [← hW3]; simp [s2]
  have s4 : W4.heap.size = w.heap.size + 1 + 1 + 1 + 1 := by rw [← hW4]; simp [s3]
  have b1 : Below w.heap.size w W1 := by rw [← hW1]; exact (Below.refl _ _).alloc (Nat.le_refl _) _
  have b2 : Below W1.heap.size W1 W2 := by rw [← hW2]; exact (Below.refl _ _).alloc (Nat.le_refl _) _
  have b3 : Below W2.heap.size W2 W3 := by rw [← hW3]; exact (Below.refl _ _).alloc (Nat.le_refl _) _
  have b4 : Below W3.heap.size W3 W4 := by rw [← hW4]; exact (Below.refl _ _).alloc (Nat.le_refl _) _
  have h0 := heap_alloc_new w (.cells #[.slice A n c] 22)
  have h1 := heap_alloc_new W1 (.cells #[.slice none 0 0] 24)
  have h2 := heap_alloc_new W2 (.cells #[.bool false] 4)
  have h3 := heap_alloc_new W3 (.cells #[.int .i64 0] 25)
  rw [hW1] at h0
  rw [hW2, s1] at h1
  rw [hW3, s2] at h2
  rw [hW4, s3] at h3
  have k0 : W4.heap[w.heap.size]? = _ := (b4.block _ (by omega)).trans ((b3.block _ (by omega)).trans ((b2.block _ (by omega)).trans h0))
  have k1 : W4.heap[w.heap.size + 1]? = _ := (b4.block _ (by omega)).trans ((b3.block _ (by omega)).trans h1)
  have k2 : W4.heap[w.heap.size + 1 + 1]? = _ := (b4.block _ (by omega)).trans h2
  rw [hW1, hW2, hW3, hW4]
  exact ⟨b1.trans ((b2.mono (by omega)).trans ((b3.mono (by omega)).trans (b4.mono (by omega)))), (cell_of_row _ _ 0 _ _ _ k0).trans rfl, (cell_of_row _ _ 0 _ _ _ k1).trans rfl, (cell_of_row _ _ 0 _ _ _ k2).trans rfl, (cell_of_row _ _ 0 _ _ _ h3).trans rfl,
    by simp [World.frozen?, k1], by simp [World.frozen?, k2], by simp [World.frozen?, h3], by omega, ⟨_, _, k1⟩, ⟨_, _, k2⟩, ⟨_, _, h3⟩⟩

theorem SB.ints {base : Nat} {w wr : World} {A : Option Addr} {n c : Nat} {v1 v2 v3 : Value} (h : SB w wr A n c v1 v2 v3) (hbs : base ≤ w.heap.size) {B : Option Addr} {k cb : Nat} {os : List Int} (ho : Ints base wr B k cb os) (u1 u2 u3 : Value) :
    Ints base (((wr.setCell ⟨w.heap.size + 1, 0, none⟩ u1).setCell ⟨w.heap.size + 1 + 1, 0, none⟩ u2).setCell ⟨w.heap.size + 1 + 1 + 1, 0, none⟩ u3) B k cb os :=
  ⟨((ho.rd.set h.t1 (by decide) (by show base ≤ w.heap.size + 1; omega) u1).set (p := ⟨w.heap.size + 1 + 1, 0, none⟩) (h.t2.set _ _) (by decide) (by show base ≤ w.heap.size + 1 + 1; omega) u2).set (p := ⟨w.heap.size + 1 + 1 + 1, 0, none⟩) ((h.t3.set _ _).set _ _) (by decide) (by show base ≤ w.heap.size + 1 + 1 + 1; omega) u3, ho.big⟩
theorem keeps_below {w w' : World} (h : Below w.heap.size w w') : KeepsOthers w w' := ⟨h.size, fun k o hk _ => (h.block k (Array.getElem?_eq_some_iff.1 hk).1).trans hk⟩
theorem keeps3 {w w' : World} (h : KeepsOthers w w') (p q r : Addr) (u v x : Value) : KeepsOthers w (((w'.setCell p u).setCell q v).setCell r x) :=
  ((h.trans (KeepsOthers.setCell _ _ _)).trans (KeepsOthers.setCell _ _ _)).trans (KeepsOthers.setCell _ _ _)
theorem Ints.put {base : Nat} {w : World} {A : Option Addr} {n c : Nat} {os : List Int} (h : Ints base w A n c os) {l : Nat} {o : Obj} (hl : base ≤ l) (ho : w.heap[l]? = some o) (hc : o.isCells = false) (o' : Obj) : Ints base (w.putObj l o') A n c os :=
  ⟨h.rd.keep (by simp [World.putObj]) fun b hb => World.putObj_heap_other (by
    rintro rfl
    rcases hb.2 with h1 | ⟨cs, fr, h1⟩
    · omega
    · rw [ho] at h1
      injection h1 with h1
      subst h1
      simp [Obj.isCells] at hc), h.big⟩

set_option maxHeartbeats 16000000 in
set_option maxRecDepth 100000 in
theorem Search_calls {base : Nat} {w : World} {A : Option Addr} {n c : Nat} {hs : List CallR} (hh : Hist base w A n c hs) (hbs : base ≤ w.heap.size) :
    Calls Try.prog 9 #[.slice A n c] w (SearchPost base w hs) := by
  have hn := hh.len
  have hbig := hh.big
  have H := Asd.mk (fun W (hW : Below w.heap.size w W) => hh.below hW)
  have CC : Asd (∀ (W : World), Below w.heap.size w W → ∀ b, hs.any (fun x => !x.ok) = b → Calls Try.prog 25 #[.slice A n c, .func (.func 26) #[] #[]] W fun e w' => e = .returned (.bool b) ∧ Below W.heap.size W w') := ⟨fun W hW b hb =>
    ContainsCall_calls (base := base) (T := 44) (fun x => !x.ok) 26 (enters_of Try.func26 (by kernel_rfl) rfl) W A n c hs (hh.below hW).rd hbig (fun W2 x hW2 hx => Search1_calls (((hh.below hW).below hW2).ins x hx)) b hb⟩
  have S0 := Asd.mk (SB.start w A n c)
  have N := Asd.mk hn
  generalize hp : searchP hs = p
  have P := Asd.mk hp
  unfold SearchPost
  rw [hp]
  clear hh hp
  by_cases hl : 7 < n
  · have hl' : (7 : Int) < (n : Int) := by omega
    obtain rfl : ([], false, 2) = p := by rw [← P.out]; unfold searchP; rw [if_pos (by omega)]
    clear hn P CC
    go_enter Try.func9, Try.ntmps9
    go_upto_region 1 with fail
    generalize (((w.alloc (.cells #[.slice A n c] 22)).alloc (.cells #[.slice none 0 0] 24)).alloc (.cells #[.bool false] 4)).alloc (.cells #[.int .i64 0] 25) = w1 at S0 ⊢
    have c0 := S0.out.c0
    have c1 := S0.out.c1
    have c2 := S0.out.c2
    have c3 := S0.out.c3
    have f1 := S0.out.f1
    have f2 := S0.out.f2
    have f3 := S0.out.f3
    go_wp2_with fail
    have S1 := Asd.mk (S0.out.stored (.slice none 0 0) (.bool false) (.int .i64 2))
    have k1 := S1.out.c1
    have k2 := S1.out.c2
    have k3 := S1.out.c3
    refine bodyPost_ret (v := .tuple #[.slice none 0 0, .bool false, .int .i64 2]) (by simp [results, Try.results9, go_sem, k1, k2, k3]) rfl ?_
    exact ⟨S1.out.below, none, 0, 0, rfl, ints_nil _ _⟩
  · have hl' : ¬ (7 : Int) < (n : Int) := by omega
    cases hany : hs.any (fun x => !x.ok) with
    | true =>
      obtain rfl : ([], false, 80) = p := by rw [← P.out]; unfold searchP; rw [if_neg (by omega), if_pos hany]
      have cc := fun W hW => CC.out W hW true hany
      clear hn P CC hany
      go_enter Try.func9, Try.ntmps9
      go_upto_region 1 with fail
      generalize (((w.alloc (.cells #[.slice A n c] 22)).alloc (.cells #[.slice none 0 0] 24)).alloc (.cells #[.bool false] 4)).alloc (.cells #[.int .i64 0] 25) = w1 at S0 ⊢
      have c0 := S0.out.c0
      have c2 := cc w1 S0.out.below
      clear cc
      go_wp2_with fail
      refine c2.mono ?_
      rintro e w2 ⟨rfl, hb2⟩
      have S2 := Asd.mk (S0.out.next hb2)
      clear hb2 c2 c0
      have c0 := S2.out.c0
      have c1 := S2.out.c1
      have c2 := S2.out.c2
      have c3 := S2.out.c3
      have f1 := S2.out.f1
      have f2 := S2.out.f2
      have f3 := S2.out.f3
      go_wp2_with fail
      have S1 := Asd.mk (S2.out.stored (.slice none 0 0) (.bool false) (.int .i64 80))
      have k1 := S1.out.c1
      have k2 := S1.out.c2
      have k3 := S1.out.c3
      refine bodyPost_ret (v := .tuple #[.slice none 0 0, .bool false, .int .i64 80]) (by simp [results, Try.results9, go_sem, k1, k2, k3]) rfl ?_
      exact ⟨S1.out.below, none, 0, 0, rfl, ints_nil _ _⟩
    | false =>
      have hp2 : searchP hs = match findC hs n [] with
          | some os => (os, true, 0)
          | none => ([], false, 0) := by unfold searchP; rw [if_neg (by omega), if_neg (by rw [hany]; simp), N.out]
      have P2 := Asd.mk (P.out.symm.trans hp2)
      have cc := fun W hW => CC.out W hW false hany
      have hn7 : n ≤ 7 := by omega
      clear hn P CC hany hp2
      refine callsIn_wide.1 (callsIn_of_wp_marks (n := 5) Try.func9 rfl trivial ?_ rfl)
      simp only [Try.ntmps9, List.size_toArray, List.length_cons, List.length_nil, Nat.reduceAdd, Nat.reduceSub, Array.replicate_succ, Array.replicate_zero, List.push_toArray, List.append_toArray, List.nil_append, List.cons_append]
      refine wpIn_wide.2 ?_
      go_upto_region 1 with fail
      generalize (((w.alloc (.cells #[.slice A n c] 22)).alloc (.cells #[.slice none 0 0] 24)).alloc (.cells #[.bool false] 4)).alloc (.cells #[.int .i64 0] 25) = w1 at S0 ⊢
      have c0 := S0.out.c0
      have c2 := cc w1 S0.out.below
      clear cc
      go_wp2_with fail
      refine c2.mono ?_
      rintro e w2 ⟨rfl, hb2⟩
      have S2 := Asd.mk (S0.out.next hb2)
      clear hb2 c2 c0
      have c0 := S2.out.c0
      have oc := orders_calls n w.heap.size w2
      go_wp2_with fail
      refine oc.mono ?_
      rintro e w3 ⟨rfl, hb3, hs3, k1, k2, k3⟩
      have S3 := Asd.mk (S2.out.next hb3)
      have HS := Asd.mk hs3
      have K1 := Asd.mk k1
      have K2 := Asd.mk k2
      have K3 := Asd.mk k3
      clear oc hb3 hs3 k1 k2 k3 c0
      go_wp2_with fail
      refine (wpIn_wide (n := 5)).1 ?_
      have hB3 := S3.out.below
      have hl3 := S3.out.lt
      have hw2 := S2.out.lt
      have hbw3 : base ≤ w3.heap.size := by have := hB3.size; omega
      refine range_stop (α := OrdV) rfl (by omega) (gf := 51) (lb := #[.pointer (some ⟨w2.heap.size + 1 + 1, 0, none⟩)]) rfl trivial (enters_of Try.func51 (by kernel_rfl) rfl)
        (encs := fun x => #[x.val]) (fun _ => rfl) (fun x W => x.In base W) (fun x => judgeP hs x.os = (0, 0))
        (fun x W => SB w W A n c x.val (.bool true) (.int .i64 0) ∧ x.In base W) (fun _ => findC hs n [] = none) (fun x => findC hs n [] = some x.os ∧ judgeP hs x.os = (0, 0))
        ?hPr ?hJx ?hJd ?hseq (fun _ _ _ _ _ _ _ h => h) (fun x => { tmps := #[.slice A n c, .pointer (some ⟨w.heap.size, 0, none⟩), .pointer (some ⟨w.heap.size + 1, 0, none⟩), .pointer (some ⟨w.heap.size + 1 + 1, 0, none⟩), .pointer (some ⟨w.heap.size + 1 + 1 + 1, 0, none⟩),
          .func (.func 28) #[] #[.pointer (some ⟨w.heap.size, 0, none⟩)], x.val, .slice A n c, .int .i64 n, .bool false, .slice A n c, .bool false, .func (.func 28) #[] #[.pointer (some ⟨w.heap.size, 0, none⟩)], .slice A n c, .int .i64 n,
          .func (.func 28) #[] #[.pointer (some ⟨w.heap.size, 0, none⟩)], .func (.func 51) #[] #[.pointer (some ⟨w2.heap.size + 1 + 1, 0, none⟩)], x.val, undef, undef, undef, undef, undef, undef], defers := [] }) ?assign ?body ?done ?stop
      case hPr => exact fun x W l o o' hl ho hc h => Ints.put h (by omega) ho hc o'
      case hJx => exact fun x W l o o' hl ho hc h => ⟨h.1.put (by omega) o', Ints.put h.2 (by omega) ho hc o'⟩
      case hJd => exact fun x W q h => ⟨h.1.drewN q, h.2.rd.drewN q, h.2.big⟩
      case hseq =>
        intro l W D hl hlt hbW hDd hY
        have hst : StF base w2.heap.size (w2.heap.size + 1) (w2.heap.size + 1 + 1) w.heap.size w3 A n c hs :=
          ⟨K1.out, K2.out, K3.out, S3.out.c0, by have := HS.out; omega, by have := HS.out; omega, by have := HS.out; omega, by omega, H.out _ hB3⟩
        exact callsIn_wide.2 (orders2_calls (hst.below hbW) (by have := hbW.size; omega) hn7 hDd (fun m x W1 h1 h2 => YieldAt.anyDepth_ rfl m (hY x W1 h1 h2)))
      case assign =>
        intro l x W K hK
        gi_wp2
        exact hK
      case body =>
        intro l x W hl hbW hx
        have SW := Asd.mk (S3.out.next hbW)
        have jc := Judge_calls (H.out W SW.out.below) hx (by have := SW.out.below.size; omega)
        have c0 := SW.out.c0
        clear K1 K2 K3 hl3 hw2 hB3 HS S0 S2 S3 P2 hbW
        by_cases hz : judgeP hs x.os = (0, 0)
        · rw [hz] at jc
          obtain ⟨A', n', c', os⟩ := x
          have HX := Asd.mk hx
          have HZ := Asd.mk hz
          unfold OrdV.val
          simp only at jc HX HZ ⊢
          clear hx hz
          gi_wp2
          refine ⟨trivial, ?_⟩
          refine (CallsIn.inRound l (callsIn_wide.2 jc)).mono ?_
          clear jc
          rintro e W2 ⟨rfl, hb2⟩
          have S2 := Asd.mk (SW.out.next hb2)
          have BW := Asd.mk hb2
          have c1 := S2.out.c1
          have c2 := S2.out.c2
          have c3 := S2.out.c3
          have f1 := S2.out.f1
          have f2 := S2.out.f2
          have f3 := S2.out.f3
          clear hb2
          gi_wp2
          exact ⟨HZ.out, keeps3 (keeps_below BW.out) _ _ _ _ _ _, S2.out.stored _ _ _, S2.out.ints hbs (HX.out.below BW.out) _ _ _⟩
        · have hcode := judgeP_code hz
          have HZ := Asd.mk hz
          generalize judgeP hs x.os = f at jc hcode HZ hz
          obtain ⟨fa, fc⟩ := f
          obtain ⟨A', n', c', os⟩ := x
          unfold OrdV.val
          simp only at jc hcode ⊢
          have hcb : (fc == 0) = false := by simpa using hcode
          have hcb2 : ¬ fc = 0 := hcode
          clear hx hz hcode
          by_cases ha : fa = 0
          · subst ha
            gi_wp2
            refine ⟨trivial, ?_⟩
            refine (CallsIn.inRound l (callsIn_wide.2 jc)).mono ?_
            clear jc
            rintro e W2 ⟨rfl, hb2⟩
            have BW := Asd.mk hb2
            clear hb2
            gi_wp2
            exact BW.out
          · have hab : (fa == 0) = false := by simpa using ha
            gi_wp2
            refine ⟨trivial, ?_⟩
            refine (CallsIn.inRound l (callsIn_wide.2 jc)).mono ?_
            clear jc
            rintro e W2 ⟨rfl, hb2⟩
            have BW := Asd.mk hb2
            clear hb2
            gi_wp2
            exact BW.out
      case done =>
        intro D W hD hbW hf hK
        have SW := Asd.mk (S3.out.next hbW)
        have KK := Asd.mk hK
        obtain rfl : ([], false, 0) = p := by rw [P2.out, hf]
        have c1 := SW.out.c1
        have c2 := SW.out.c2
        have c3 := SW.out.c3
        have f1 := SW.out.f1
        have f2 := SW.out.f2
        have f3 := SW.out.f3
        clear K1 K2 K3 hw2 HS S0 S2 P2 hbW hf hK
        go_wp2_with fail
        have S4 := Asd.mk (SW.out.stored (.slice none 0 0) (.bool false) (.int .i64 0))
        have hK' := (keeps3 (KeepsOthers.refl W) ⟨w.heap.size + 1, 0, none⟩ ⟨w.heap.size + 1 + 1, 0, none⟩ ⟨w.heap.size + 1 + 1 + 1, 0, none⟩ (.slice none 0 0) (.bool false) (.int .i64 0)).same D _ KK.out rfl
        refine ⟨by simp, .inl ⟨_, _, rfl, run_takeDeferred hK', ?_⟩⟩
        have S5 := S4.out.put (l := D) (by omega) (.deferred none)
        have k1 := S5.c1
        have k2 := S5.c2
        have k3 := S5.c3
        refine ⟨.tuple #[.slice none 0 0, .bool false, .int .i64 0], by simp [results, Try.results9, go_sem, k1, k2, k3], ?_⟩
        exact ⟨S5.below, none, 0, 0, rfl, ints_nil _ _⟩
      case stop =>
        rintro D x W hD ⟨hg, hj⟩ ⟨hS, hI⟩ hK
        obtain rfl : (x.os, true, 0) = p := by rw [P2.out, hg]
        refine ⟨by simp, .inl ⟨_, _, rfl, run_takeDeferred hK, ?_⟩⟩
        have S5 := hS.put (l := D) (by omega) (.deferred none)
        have k1 := S5.c1
        have k2 := S5.c2
        have k3 := S5.c3
        refine ⟨.tuple #[x.val, .bool true, .int .i64 0], by simp [results, Try.results9, go_sem, k1, k2, k3], ?_⟩
        exact ⟨S5.below, x.A, x.n, x.c, rfl, Ints.put hI (by omega) hK rfl _⟩

end Go.Proofs.Ytlhjfblpinpjiaa

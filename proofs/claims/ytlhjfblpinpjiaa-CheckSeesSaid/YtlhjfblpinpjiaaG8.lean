/- CheckLoosens: the walk. -/
import Derived.Test.YtlhjfblpinpjiaaG5
import Derived.Deep.RegionHeld3
import Derived.Deep.AppendLies
import Derived.Deep.CutRange
set_option linter.unusedVariables false
set_option linter.unusedSimpArgs false
namespace Go.Proofs.Ytlhjfblpinpjiaa
open Go.RowKit

theorem own_le_ {w : World} {b b' e k n : Nat} {v : Value} {xs : List Value} (h : w.ownsRow b e k v n xs) (hb : b' ≤ b) : w.ownsRow b' e k v n xs :=
  ⟨h.1, h.2.imp id fun ⟨g, cap, cur, h1, h2, h3⟩ => ⟨g, cap, cur, h1, Nat.le_trans hb h2, h3⟩⟩
/-- An own row, one cell turned. -/
theorem own_put_ {w : World} {b e k n c g j : Nat} {xs : List Value} (h : w.ownsRow b e k (.slice (some ⟨g, 0, none⟩) n c) n xs) (hj : j < n * k) (u : Value) : (w.setCell ⟨g, j, none⟩ u).ownsRow b e k (.slice (some ⟨g, 0, none⟩) n c) n (xs.set j u) := by
  refine ⟨by rw [List.length_set]; exact h.1, ?_⟩
  rcases h.2 with ⟨h1, _⟩ | ⟨g', cap, cur, hv, hb, hh, h1, h2, h3, h4⟩
  · cases h1
  · injection hv with hv _ hcap
    injection hv with hv
    injection hv with hv _ _
    subst hv hcap
    refine .inr ⟨g, c, cur.setIfInBounds j u, rfl, hb, ?_, h1, h2, by simp [h3], ?_⟩
    · simp only [World.setCell, Array.getElem?_modify, hh, if_true]
      rfl
    · rw [Array.toList_setIfInBounds, ← h4, List.take_set]
theorem own_frozen_ {w : World} {b e k n c g : Nat} {xs : List Value} (h : w.ownsRow b e k (.slice (some ⟨g, 0, none⟩) n c) n xs) (j : Nat) : w.frozen? ⟨g, j, none⟩ = false := by
  rcases h.2 with ⟨h1, _⟩ | ⟨g', cap, cur, hv, hb, hh, _⟩
  · cases h1
  · injection hv with hv _ hcap
    injection hv with hv
    injection hv with hv _ _
    subst hv
    exact frozen_of_row _ _ j _ _ hh
theorem own_cells_ {w : World} {b e k n c g : Nat} {xs : List Value} (h : w.ownsRow b e k (.slice (some ⟨g, 0, none⟩) n c) n xs) {j : Nat} {u : Value} (hj : xs[j]? = some u) : w.cell? ⟨g, j, none⟩ = some u := by
  have := h.cells (g := g) rfl j u hj
  rwa [add_lit', Nat.zero_add] at this
theorem flat_set {l : List CallR} {k : Nat} (hk : k < l.length) {j : Nat} (hj : j < 10) {u : Value} {y : CallR} (hy : y.enc = (l[k].enc).set j u) : (l.flatMap CallR.enc).set (k * 10 + j) u = (l.set k y).flatMap CallR.enc := by
  induction l generalizing k with
  | nil => simp at hk
  | cons x l ih =>
    have hx : x.enc.length = 10 := rfl
    cases k with
    | zero =>
      rw [List.flatMap_cons, List.set_append, if_pos (by rw [hx]; omega)]
      simp only [List.set_cons_zero, List.flatMap_cons]
      rw [hy]
      simp
    | succ k =>
      rw [List.flatMap_cons, List.set_append, if_neg (by rw [hx]; omega), hx, show (k + 1) * 10 + j - 10 = k * 10 + j by omega]
      simp only [List.set_cons_succ, List.flatMap_cons]
      rw [ih (by simpa using hk) (by simpa using hy)]
theorem flat_at {l : List CallR} {k : Nat} (hk : k < l.length) {j : Nat} (hj : j < 10) : (l.flatMap CallR.enc)[k * 10 + j]? = (l[k].enc)[j]? := flat_get CallR.enc 10 (fun _ => rfl) l k j hk hj

/-- A region that ends one way, whatever its order. -/
theorem wp_one {P : Program} {c : Code} {Q : Exit → Act → World → Prop} {a : Act} {w : World} (h : ∃ A W, c.wp P (fun e a' w' => e = .normal ∧ a' = A ∧ w' = W) a w ∧ Q .normal A W) : c.wp P Q a w := by
  obtain ⟨A, W, h1, h2⟩ := h
  exact wp_mono h1 (fun e a' w' ⟨e1, e2, e3⟩ => by rw [e1, e2, e3]; exact h2)
/-- What CheckLoosens keeps in memory. -/
structure LooseS (w wr : World) (B : Option Addr) (m d : Nat) (hs : List CallR) (C : Option Addr) (cc : Nat) (L : Option Addr) (lc : Nat) (ls : List CallR) : Prop where
  below : Below w.heap.size w wr
  hown : wr.ownsRow w.heap.size 44 10 (.slice B m d) m (hs.flatMap CallR.enc)
  ins : ∀ x ∈ hs, CallIn w.heap.size wr x
  lown : wr.ownsRow w.heap.size 44 10 (.slice L m lc) m (ls.flatMap CallR.enc)
  lins : ∀ x ∈ ls, CallIn w.heap.size wr x
  ints : Ints w.heap.size wr C m cc (rangeI m)
  apart : ∀ j, (Value.slice L m lc).ownBlock = some j → (Value.slice B m d).ownBlock ≠ some j
section
variable {w wr w' : World} {B C L : Option Addr} {m d cc lc : Nat} {hs ls : List CallR}
theorem LooseS.next (h : LooseS w wr B m d hs C cc L lc ls) (hb : Below wr.heap.size wr w') : LooseS w w' B m d hs C cc L lc ls :=
  ⟨h.below.trans (hb.mono h.below.size), h.hown.kept (gb_below hb none) (by cases (Value.slice B m d).ownBlock <;> simp), fun x hx => (h.ins x hx).below hb, h.lown.kept (gb_below hb none) (by cases (Value.slice L m lc).ownBlock <;> simp), fun x hx => (h.lins x hx).below hb, h.ints.below hb, h.apart⟩
theorem LooseS.hlen (h : LooseS w wr B m d hs C cc L lc ls) : hs.length = m := by
  have h1 := h.hown.1
  rw [flat_len CallR.enc 10 (fun _ => rfl)] at h1
  omega
theorem LooseS.llen (h : LooseS w wr B m d hs C cc L lc ls) : ls.length = m := by
  have h1 := h.lown.1
  rw [flat_len CallR.enc 10 (fun _ => rfl)] at h1
  omega
/-- One cell of the copy turned, of its times. -/
theorem LooseS.put {lb : Nat} (h : LooseS w wr B m d hs C cc (some ⟨lb, 0, none⟩) lc ls) {k : Nat} (hk : k < ls.length) {j : Nat} (hj : j < 2) {u : Value} {y : CallR} (hy : y.enc = (ls[k].enc).set j u)
    (hyi : ∀ W, CallIn w.heap.size W ls[k] → CallIn w.heap.size W y) : LooseS w (wr.setCell ⟨lb, k * 10 + j, none⟩ u) B m d hs C cc (some ⟨lb, 0, none⟩) lc (ls.set k y) := by
  have hlen := h.llen
  have hlb : w.heap.size ≤ lb := own_ge h.lown rfl
  have hg : wr.grownBy (wr.setCell ⟨lb, k * 10 + j, none⟩ u) (some lb) := gb_cell _ _ _ _
  have hgr : ∀ i, some lb = some i → IsT wr i 44 ∧ w.heap.size ≤ i := fun i hi => by
    injection hi with hi
    subst hi
    exact own_ist h.lown _ rfl
  have hkeep : ∀ x, CallIn w.heap.size wr x → CallIn w.heap.size (wr.setCell ⟨lb, k * 10 + j, none⟩ u) x := fun x hx => hx.grownR hg hgr (by decide) (by decide) (by decide)
  refine ⟨h.below.setCell hlb _, h.hown.kept hg (.inr (h.apart lb rfl)), fun x hx => hkeep x (h.ins x hx), ?_, fun x hx => ?_, h.ints.grownR hg hgr (by decide), h.apart⟩
  · have := own_put_ h.lown (j := k * 10 + j) (by omega) u
    rwa [flat_set hk (by omega) hy] at this
  · rcases List.mem_or_eq_of_mem_set hx with hx | rfl
    · exact hkeep x (h.lins x hx)
    · exact hkeep _ (hyi _ (h.lins _ (List.getElem_mem hk)))
end
/-- The k-th asked earlier. -/
def CallR.ask (y : CallR) (a : Int) : CallR := { y with asked := a }
def CallR.tell (y : CallR) (a : Int) : CallR := { y with told := a }
theorem CallIn.ask {base : Nat} {w : World} {y : CallR} (h : CallIn base w y) (a : Int) : CallIn base w (y.ask a) := ⟨h.rdo, h.fits, h.obig, h.rdr, h.rins, h.rbig⟩
theorem CallIn.tell {base : Nat} {w : World} {y : CallR} (h : CallIn base w y) (a : Int) : CallIn base w (y.tell a) := ⟨h.rdo, h.fits, h.obig, h.rdr, h.rins, h.rbig⟩
theorem Loose.set {hs ls : List CallR} (h : Loose hs ls) {k : Nat} (hk : k < hs.length) {y : CallR} (hy : LooseAt hs[k] y) : Loose hs (ls.set k y) := by
  refine ⟨by rw [List.length_set]; exact h.len, fun i h1 h2 => ?_⟩
  rw [List.getElem_set]
  split
  · rename_i e; subst e; exact hy
  · exact h.at_ i h1 (by simpa using h2)

theorem drew_below (W : World) : Below W.heap.size W W.drew := ⟨rfl, rfl, rfl, Nat.le_refl _, fun _ _ => rfl⟩
theorem loose_ask {w wr : World} {B C : Option Addr} {m d cc lc lb : Nat} {hs ls : List CallR} (SW : LooseS w wr B m d hs C cc (some ⟨lb, 0, none⟩) lc ls) (LW : Loose hs ls) {k : Nat} (EW : ∀ (i : Nat) (h1 : i < hs.length) (h2 : i < ls.length), k ≤ i → ls[i] = hs[i]) (hkh : k < hs.length) (hkl : k < ls.length)
    {v : Int} (h1 : 1 ≤ v) (h2 : v ≤ ls[k].asked) :
    ∃ ls1, Asd (LooseS w (wr.setCell ⟨lb, k * 10, none⟩ (.int .i64 v)).drew B m d hs C cc (some ⟨lb, 0, none⟩) lc ls1) ∧ Asd (Loose hs ls1) ∧ Asd (∀ (i : Nat) (h1 : i < hs.length) (h2 : i < ls1.length), k + 1 ≤ i → ls1[i] = hs[i]) ∧ Asd (∀ (h2 : k < ls1.length), ls1[k].told = ls[k].told) := by
  have hp := SW.put hkl (j := 0) (by omega) (u := .int .i64 v) (y := ls[k].ask v) rfl (fun W h => h.ask v)
  have hl := LW.at_ k hkh hkl
  have he := EW k hkh hkl (Nat.le_refl _)
  refine ⟨ls.set k (ls[k].ask v), ⟨hp.next (drew_below _)⟩, ⟨LW.set hkh ⟨h1, by have := hl.as2; simp only [CallR.ask]; omega, hl.td, hl.cl, hl.sq, hl.ops, hl.res, hl.at_, hl.code⟩⟩, ⟨fun i a1 a2 a3 => ?_⟩, ⟨fun a2 => ?_⟩⟩
  · rw [List.getElem_set, if_neg (by omega)]
    exact EW i a1 (by simpa using a2) (by omega)
  · rw [List.getElem_set, if_pos rfl]
    rfl
theorem loose_tell {w wr : World} {B C : Option Addr} {m d cc lc lb : Nat} {hs ls : List CallR} (SW : LooseS w wr B m d hs C cc (some ⟨lb, 0, none⟩) lc ls) (LW : Loose hs ls) {k : Nat} (EW : ∀ (i : Nat) (h1 : i < hs.length) (h2 : i < ls.length), k + 1 ≤ i → ls[i] = hs[i]) (hkh : k < hs.length) (hkl : k < ls.length)
    {v : Int} (h0 : 0 < hs[k].told) (h1 : hs[k].told ≤ v) (h2 : v ≤ hs[k].told + 49) :
    ∃ ls1, Asd (LooseS w (wr.setCell ⟨lb, k * 10 + 1, none⟩ (.int .i64 v)).drew B m d hs C cc (some ⟨lb, 0, none⟩) lc ls1) ∧ Asd (Loose hs ls1) ∧ Asd (∀ (i : Nat) (h1 : i < hs.length) (h2 : i < ls1.length), k + 1 ≤ i → ls1[i] = hs[i]) := by
  have hp := SW.put hkl (j := 1) (by omega) (u := .int .i64 v) (y := ls[k].tell v) rfl (fun W h => h.tell v)
  have hl := LW.at_ k hkh hkl
  refine ⟨ls.set k (ls[k].tell v), ⟨hp.next (drew_below _)⟩, ⟨LW.set hkh ⟨hl.as1, hl.as2, .inr ⟨h0, h1, h2⟩, hl.cl, hl.sq, hl.ops, hl.res, hl.at_, hl.code⟩⟩, ⟨fun i a1 a2 a3 => ?_⟩⟩
  rw [List.getElem_set, if_neg (by omega)]
  exact EW i a1 (by simpa using a2) a3

set_option maxHeartbeats 16000000 in
set_option maxRecDepth 100000 in
theorem Loosens_walk {w : World} {A P R : Option Addr} {n c pn pc rn rc : Nat} {ts : List TurnR} {es fs : List Int} (hh : Turns w.heap.size w A n c ts) (he : Ints w.heap.size w P pn pc es) (hf : Ints w.heap.size w R rn rc fs) (hpb : pn * 8 ≤ 140737488351232) (hrb : rn * 8 ≤ 140737488351232) :
    Calls Try.prog 5 #[.slice A n c, .slice P pn pc, .slice R rn rc] w fun e w' => e = .returned (.bool true) ∧ Below w.heap.size w w' := by
  have H := Asd.mk (fun W (h : Below w.heap.size w W) => hh.below h)
  have E := Asd.mk (fun W (h : Below w.heap.size w W) => he.below h)
  have F := Asd.mk (fun W (h : Below w.heap.size w W) => hf.below h)
  clear hh he hf
  go_enter Try.func5, Try.ntmps5
  go_wp2_with fail
  refine (works_calls w).mono ?_
  rintro e w1 ⟨rfl, hb1⟩
  have B1 := Asd.mk hb1
  clear hb1
  go_wp2_with fail
  refine (made_calls (H.out w1 B1.out) B1.out.size).mono ?_
  rintro e w2 ⟨B, m, d, hs, rfl, hO2, hI2, hBu, hb2⟩
  have hlen : hs.length = m := by
    have h1 := hO2.1
    rw [flat_len CallR.enc 10 (fun _ => rfl)] at h1
    omega
  have hm40 : m ≤ 40 := by have := hBu.len; omega
  have B2 := Asd.mk (B1.out.trans (hb2.mono B1.out.size))
  have O2 := Asd.mk (own_le_ hO2 B1.out.size)
  have I2 := Asd.mk hI2
  have BU := Asd.mk hBu
  have LN := Asd.mk hlen
  clear hO2 hI2 hBu hb2 hlen B1 H
  go_wp2_with fail
  refine (numbers_calls w.heap.size m (by omega) w2 B2.out.size).mono ?_
  rintro e w3 ⟨C, cc, rfl, hO3, hb3⟩
  have I3 : Asd (Ints w.heap.size w3 C m cc (rangeI m)) := ⟨own_ints hO3 (by omega)⟩
  have O3 := Asd.mk (O2.out.kept (gb_below hb3 none) (by cases (Value.slice B m d).ownBlock <;> simp))
  have J3 := Asd.mk (fun x hx => (I2.out x hx).below hb3)
  have B3 := Asd.mk (B2.out.trans (hb3.mono B2.out.size))
  clear hO3 hb3 B2 O2 I2
  have HR := Asd.mk (own_hist O3.out J3.out (by omega)).rd
  go_wp2_with (at_builtin; refine wpList_append_mine (base := w.heap.size) (own := w3.heap.size) (v := .slice (some ⟨w3.heap.size, 0, none⟩) 0 0) (n := 0) (xs := []) rfl (.tmp 24) (.tmp 25) 22 rfl elt_call rfl rfl (World.ownsRow_made w3 #[] 0 (Nat.le_refl _) (by simp [maxLen]) (by simp)) (HR.out.alloc _) (calls_one hs) (by simp only [maxLen]; omega) (by omega) (by simp) ?_; intro v' w4 hO4 hG4; rw [Nat.zero_add] at hO4; rw [List.nil_append] at hO4; obtain ⟨L, lc, rfl, hR4⟩ := Rd.of_own (base := w.heap.size) hO4)
  have hb4 : Below w3.heap.size w3 w4 := ((Below.refl w3.heap.size w3).alloc (Nat.le_refl _) _).grown hG4 (by simp) (fun j hj => by simp [Value.ownBlock] at hj; omega)
  have S4 : Asd (LooseS w w4 B m d hs C cc L lc hs) := ⟨⟨B3.out.trans (hb4.mono B3.out.size), O3.out.kept (gb_below hb4 none) (by cases (Value.slice B m d).ownBlock <;> simp), fun x hx => (J3.out x hx).below hb4, own_le_ hO4 B3.out.size, fun x hx => (J3.out x hx).below hb4, I3.out.below hb4, fun j hj hj2 => by
    have h1 := own_ge hO4 hj
    have h2 := (O3.out.lt j hj2).2
    omega⟩⟩
  clear hO4 hG4 hR4 hb4 HR O3 J3 I3 B3
  go_loopw [29] (fun s29 wr => ∃ (k : Nat) (ls : List CallR), s29 = .int .i64 k ∧ k ≤ m ∧ Asd (LooseS w wr B m d hs C cc L lc ls) ∧ Asd (Loose hs ls) ∧ Asd (∀ (i : Nat) (h1 : i < hs.length) (h2 : i < ls.length), k ≤ i → ls[i] = hs[i])) (fun s29 _ => m - (intOf s29).toNat)
  case atStart => exact ⟨0, hs, rfl, Nat.zero_le _, S4, ⟨Loose.refl BU.out⟩, ⟨fun i h1 h2 hle => rfl⟩⟩
  case round =>
    obtain ⟨k, ls, rfl, hkm, SW, LW, EW⟩ := hrel
    by_cases hlt : k < m
    · obtain ⟨lb, lcap, hv, hlb, hlbl⟩ := SW.out.lown.form (by omega)
      injection hv with hv1 _ hv2
      subst hv1 hv2
      have hkh : k < hs.length := by have := LN.out; omega
      have hkl : k < ls.length := by have := SW.out.llen; omega
      have hbk := BU.out.at_ k hkh
      have hlk := LW.out.at_ k hkh hkl
      have hek := EW.out k hkh hkl (Nat.le_refl _)
      have A1 : Asd (1 ≤ ls[k].asked ∧ ls[k].asked ≤ 500) := ⟨by rw [hek]; have := hbk.a0; have := hbk.a1; omega⟩
      have T1 : Asd (ls[k].told = 0 ∨ (100 ≤ ls[k].told ∧ ls[k].told ≤ 560)) := ⟨by rw [hek]; have := hbk.t; omega⟩
      have hlf := own_frozen_ SW.out.lown
      have hka := own_cells_ SW.out.lown ((flat_at hkl (j := 0) (by omega)).trans rfl)
      rw [Nat.add_zero] at hka
      have hkc : k < lc := Nat.lt_of_lt_of_le hlt (by
        obtain ⟨A', c', e, hr⟩ := Rd.of_own (base := w.heap.size) SW.out.lown
        injection e with _ _ e2
        subst e2
        exact hr.cap)
      obtain ⟨am, ham⟩ : ∃ am : Int → Int, am = fun x => amongP x 50 := ⟨_, rfl⟩
      have hab : ∀ x, 0 ≤ am x ∧ am x ≤ 49 := fun x => by
        rw [ham]
        have := amongP_range x (n := 50) (by omega)
        simp only
        omega
      have AB := Asd.mk hab
      have AC : Asd (∀ x W, Calls Try.prog 14 #[.int .i64 x, .int .i64 50] W fun e w' => e = .returned (.int .i64 (am x)) ∧ w' = W) := ⟨fun x W => by rw [ham]; exact among_calls _ 50 (by omega) (by omega) W⟩
      clear ham hab hbk hlk hek
      have LS := LW
      go_upto_if 35 with fail
      go_cut [29] from 29 to 77 (fun s29 wc => s29 = .int .i64 k ∧ ∃ ls1, Asd (LooseS w wc B m d hs C cc (some ⟨lb, 0, none⟩) lc ls1) ∧ Asd (Loose hs ls1) ∧ Asd (∀ (i : Nat) (h1 : i < hs.length) (h2 : i < ls1.length), k + 1 ≤ i → ls1[i] = hs[i]) ∧ Asd (∀ (h2 : k < ls1.length), ls1[k].told = ls[k].told))
      case first =>
        by_cases hp : k < pn
        · obtain ⟨b, off, rfl, hbl, hil, c0⟩ := (E.out wr SW.out.below).at_ hp
          have hcd : k < pc := Nat.lt_of_lt_of_le hp (E.out wr SW.out.below).rd.cap
          obtain ⟨xa0, xa1⟩ := AB.out es[k]
          obtain ⟨xb0, xb1⟩ := A1.out
          generalize es[k] = x at c0 xa0 xa1
          generalize hya : ls[k].asked = ya at hka xb0 xb1
          have YA := Asd.mk hya
          clear hya
          go_upto_region 10 with fail
          go_region_with (go_at_call 14; refine (AC.out _ _).mono ?_; rintro e w5 ⟨rfl, rfl⟩)
          all_goals go_wp2_with fail
          all_goals
            go_meet
            case rel =>
              refine ⟨rfl, ?_⟩
              have ew := IntWalk.i64_in (ya - am x) (by omega)
              simp only [ew] at *
              exact loose_ask SW.out LW.out EW.out hkh hkl (by omega) (by rw [YA.out]; omega)
        · go_wp2_with fail
          go_meet
          case rel => exact ⟨rfl, ls, SW, LW, ⟨fun i h1 h2 h3 => EW.out i h1 h2 (by omega)⟩, ⟨fun _ => rfl⟩⟩
      case rest =>
        obtain ⟨rfl, ls1, S1, L1, E1, D1⟩ := hcut
        have hkl1 : k < ls1.length := by have := S1.out.llen; omega
        have hka1 := own_cells_ S1.out.lown ((flat_at hkl1 (j := 1) (by omega)).trans rfl)
        have hlf1 := own_frozen_ S1.out.lown
        rw [D1.out hkl1] at hka1
        have T2 : Asd (ls[k].told = hs[k].told) := ⟨by rw [EW.out k hkh hkl (Nat.le_refl _)]⟩
        generalize hta : ls[k].told = ta at hka1 T1 T2
        clear hta hka hlf SW LW EW A1 D1
        by_cases hr : k < rn
        · by_cases ht : 0 < ta
          · obtain ⟨b, off, rfl, hbl, hil, c0⟩ := (F.out wc S1.out.below).at_ hr
            have hcd : k < rc := Nat.lt_of_lt_of_le hr (F.out wc S1.out.below).rd.cap
            obtain ⟨xa0, xa1⟩ := AB.out fs[k]
            have ht1 : ta ≤ 560 := by have := T1.out; omega
            generalize fs[k] = x at c0 xa0 xa1
            go_upto_region 12 with fail
            go_region_with (go_at_call 14; refine (AC.out _ _).mono ?_; rintro e w5 ⟨rfl, rfl⟩)
            all_goals
              have ew := IntWalk.i64_in (ta + am x) (by omega)
              simp only [ew]
              obtain ⟨ls2, S2, L2, E2⟩ := loose_tell S1.out L1.out E1.out hkh hkl1 (v := ta + am x) (by have := T2.out; omega) (by have := T2.out; omega) (by have := T2.out; omega)
              go_wp2_with fail
              go_roundw
              case measure => simp [intOf]; omega
              case rel => exact ⟨k + 1, ls2, by go_num, by omega, S2, L2, E2⟩
          · go_wp2_with fail
            go_roundw
            case measure => simp [intOf]; omega
            case rel => exact ⟨k + 1, ls1, by go_num, by omega, S1, L1, E1⟩
        · go_wp2_with fail
          go_roundw
          case measure => simp [intOf]; omega
          case rel => exact ⟨k + 1, ls1, by go_num, by omega, S1, L1, E1⟩
    · obtain rfl : k = m := by omega
      have hlm := SW.out.llen
      have FL := Asd.mk (LW.out.fair BU.out)
      have JH : Asd (∀ W, Below wr.heap.size wr W → Hist w.heap.size W B k d hs) := ⟨fun W h => own_hist (SW.out.next h).hown (SW.out.next h).ins (by omega)⟩
      have JL : Asd (∀ W, Below wr.heap.size wr W → Hist w.heap.size W L k lc ls) := ⟨fun W h => own_hist (SW.out.next h).lown (SW.out.next h).lins (by omega)⟩
      have JB : Asd (∀ W, Below wr.heap.size wr W → Below w.heap.size w W) := ⟨fun W h => SW.out.below.trans (h.mono SW.out.below.size)⟩
      have jc := Judge_calls (JL.out _ (Below.refl _ _)) SW.out.ints SW.out.below.size
      rw [← hlm, fair_all FL.out, hlm] at jc
      have LM := Asd.mk hlm
      clear hlm S4 EW
      go_wp2_with fail
      refine jc.mono ?_
      clear jc
      rintro e w5 ⟨rfl, hb5⟩
      have B5 := Asd.mk hb5
      clear hb5
      by_cases h5 : 5 < k
      · have h5' : (5 : Int) < (k : Int) := by omega
        go_wp2_with fail
        go_ret
        exact ⟨rfl, JB.out _ B5.out⟩
      · have h5' : ¬ (5 : Int) < (k : Int) := by omega
        obtain ⟨r1, hr1, hz1⟩ := fair_search BU.out.fair (by have := LN.out; omega)
        obtain ⟨r2, hr2, hz2⟩ := fair_search FL.out (by have := LM.out; omega)
        have Z1 := Asd.mk hz1
        have Z2 := Asd.mk hz2
        have Z3 := Asd.mk (loose_judge LW.out FL.out hz1)
        have s1 := Search_calls (JH.out _ B5.out) (Nat.le_trans SW.out.below.size B5.out.size)
        unfold SearchPost at s1
        rw [hr1] at s1
        have s2 := Asd.mk (fun W (h : Below wr.heap.size wr W) => Search_calls (JL.out W h) (Nat.le_trans SW.out.below.size h.size))
        unfold SearchPost at s2
        rw [hr2] at s2
        clear hr1 hr2 hz1 hz2
        go_wp2_with fail
        refine s1.mono ?_
        clear s1
        rintro e w6 ⟨hb6, X, xk, xc, rfl, hi6⟩
        have B6 := Asd.mk (B5.out.trans (hb6.mono B5.out.size))
        have I6 := Asd.mk hi6
        clear hb6 hi6
        go_wp2_with fail
        refine (s2.out w6 B6.out).mono ?_
        rintro e w7 ⟨hb7, Y, yk, yc, rfl, hi7⟩
        have B7 := Asd.mk (B6.out.trans (hb7.mono B6.out.size))
        have I7 := Asd.mk (I6.out.below hb7)
        have Y7 := Asd.mk hi7
        clear hb7 hi7 I6
        have j1 := Judge_calls (JH.out w7 B7.out) I7.out (Nat.le_trans SW.out.below.size B7.out.size)
        rw [Z1.out] at j1
        go_wp2_with fail
        refine j1.mono ?_
        clear j1
        rintro e w8 ⟨rfl, hb8⟩
        have B8 := Asd.mk (B7.out.trans (hb8.mono B7.out.size))
        have I8 := Asd.mk (I7.out.below hb8)
        have Y8 := Asd.mk (Y7.out.below hb8)
        clear hb8
        have j1 := Judge_calls (JL.out w8 B8.out) I8.out (Nat.le_trans SW.out.below.size B8.out.size)
        rw [Z3.out] at j1
        go_wp2_with fail
        refine j1.mono ?_
        clear j1
        rintro e w9 ⟨rfl, hb9⟩
        have B9 := Asd.mk (B8.out.trans (hb9.mono B8.out.size))
        have Y9 := Asd.mk (Y8.out.below hb9)
        clear hb9
        have j1 := Judge_calls (JL.out w9 B9.out) Y9.out (Nat.le_trans SW.out.below.size B9.out.size)
        rw [Z2.out] at j1
        go_wp2_with fail
        refine j1.mono ?_
        clear j1
        rintro e w10 ⟨rfl, hb10⟩
        have B10 := Asd.mk (B9.out.trans (hb10.mono B9.out.size))
        clear hb10
        go_wp2_with fail
        go_ret
        exact ⟨rfl, JB.out _ B10.out⟩

end Go.Proofs.Ytlhjfblpinpjiaa

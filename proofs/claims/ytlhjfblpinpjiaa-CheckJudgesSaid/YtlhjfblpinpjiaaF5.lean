/- The search's orders: the function that calls itself, and yields. -/
import Derived.Test.YtlhjfblpinpjiaaF3
import Derived.Test.YtlhjfblpinpjiaaF4
import Derived.Deep.Cut
set_option linter.unusedVariables false
set_option linter.unusedSimpArgs false
namespace Go.Proofs.Ytlhjfblpinpjiaa
open Go.RowKit

/-- An order that is handed out: its words, and what is read there. -/
structure OrdV where
  A : Option Addr
  n : Nat
  c : Nat
  os : List Int
def OrdV.val (x : OrdV) : Value := .slice x.A x.n x.c
def OrdV.In (base : Nat) (x : OrdV) (w : World) : Prop := Ints base w x.A x.n x.c x.os
/-- What the search's closures have captured. -/
structure StF (base bn bw bf hb : Nat) (w : World) (A : Option Addr) (n c : Nat) (hs : List CallR) : Prop where
  cn : w.cell? ⟨bn, 0, none⟩ = some (.int .i64 n)
  cw : w.cell? ⟨bw, 0, none⟩ = some (.func (.func 28) #[] #[.pointer (some ⟨hb, 0, none⟩)])
  cf : w.cell? ⟨bf, 0, none⟩ = some (.func (.func 48) #[] #[.pointer (some ⟨bn, 0, none⟩), .pointer (some ⟨bw, 0, none⟩), .pointer (some ⟨bf, 0, none⟩)])
  ch : w.cell? ⟨hb, 0, none⟩ = some (.slice A n c)
  ln : bn < w.heap.size
  lw : bw < w.heap.size
  lf : bf < w.heap.size
  lh : hb < w.heap.size
  hist : Hist base w A n c hs
theorem StF.below {base bn bw bf hb : Nat} {w w' : World} {A : Option Addr} {n c : Nat} {hs : List CallR} (h : StF base bn bw bf hb w A n c hs) (hB : Below w.heap.size w w') : StF base bn bw bf hb w' A n c hs :=
  ⟨(hB.cell (p := ⟨bn, 0, none⟩) h.ln).trans h.cn, (hB.cell (p := ⟨bw, 0, none⟩) h.lw).trans h.cw, (hB.cell (p := ⟨bf, 0, none⟩) h.lf).trans h.cf, (hB.cell (p := ⟨hb, 0, none⟩) h.lh).trans h.ch,
    Nat.lt_of_lt_of_le h.ln hB.size, Nat.lt_of_lt_of_le h.lw hB.size, Nat.lt_of_lt_of_le h.lf hB.size, Nat.lt_of_lt_of_le h.lh hB.size, h.hist.below hB⟩
def FromPost (hs : List CallR) (D : OrdV → World → Prop) (w : World) (r : Option (List Int)) (e : Ending) (w' : World) : Prop :=
  (r = none ∧ e = .returned (.bool true) ∧ Below w.heap.size w w') ∨ (∃ os, r = some os ∧ e = .returned (.bool false) ∧ ∃ x : OrdV, x.os = os ∧ judgeP hs x.os = (0, 0) ∧ D x w')
theorem own_ge {w : World} {own T k n : Nat} {v : Value} {xs : List Value} (h : w.ownsRow own T k v n xs) {j : Nat} (hj : v.ownBlock = some j) : own ≤ j := by
  rcases h.2 with ⟨rfl, _⟩ | ⟨g, cap, cur, rfl, hb, _⟩
  · cases hj
  · simp [Value.ownBlock] at hj
    omega

set_option maxHeartbeats 16000000 in
set_option maxRecDepth 100000 in
theorem from_step {base bn bw bf hb l : Nat} {W0 : World} {A : Option Addr} {n c : Nat} {hs : List CallR} {D : OrdV → World → Prop}
    (hS : StF base bn bw bf hb W0 A n c hs) (hbs : base ≤ W0.heap.size) (hn7 : n ≤ 7) (hDd : ∀ x W q, D x W → D x (W.drewN q))
    (hY : ∀ (m : Nat) (x : OrdV) (W1 : World), Below W0.heap.size W0 W1 → x.In base W1 → YieldAt Fence.wide m Try.prog l #[x.val] W1 fun e W' => (¬ judgeP hs x.os = (0, 0) ∧ e = .returned (.bool true) ∧ Below W1.heap.size W1 W') ∨ (judgeP hs x.os = (0, 0) ∧ e = .returned (.bool false) ∧ D x W'))
    (d : Nat) (ih : ∀ d', d = d' + 1 → ∀ (W : World) (B : Option Addr) (k cb : Nat) (os : List Int), Below W0.heap.size W0 W → Ints base W B k cb os → AllIn hs os → freeN n os ≤ d' → k + d' ≤ 8 →
      Calls Try.prog 48 #[.slice B k cb, .func (.yield l) #[] #[], .pointer (some ⟨bn, 0, none⟩), .pointer (some ⟨bw, 0, none⟩), .pointer (some ⟨bf, 0, none⟩)] W (FromPost hs D W (findC hs d' os)))
    (W : World) (B : Option Addr) (k cb : Nat) (os : List Int) (hB0 : Below W0.heap.size W0 W) (ho : Ints base W B k cb os) (hai : AllIn hs os) (hfr : freeN n os ≤ d) (hkd : k + d ≤ 8) :
    Calls Try.prog 48 #[.slice B k cb, .func (.yield l) #[] #[], .pointer (some ⟨bn, 0, none⟩), .pointer (some ⟨bw, 0, none⟩), .pointer (some ⟨bf, 0, none⟩)] W (FromPost hs D W (findC hs d os)) := by
  have hd1 : ∀ m, (Fence.wide.depth.isSome = true → 1 ≤ m) := fun m h => by cases h
  by_cases hz : judgeP hs os = (0, 0)
  · obtain ⟨fn, tmps, assign, body, hy, hR⟩ := hY 2 ⟨B, k, cb, os⟩ W hB0 ho
    have hR2 := hR.mono (R' := fun e W' => e = .returned (.bool false) ∧ D ⟨B, k, cb, os⟩ W') (by
      rintro e W' (⟨h, _⟩ | ⟨_, h1, h2⟩)
      · exact absurd hz h
      · exact ⟨h1, h2⟩)
    have Z := Asd.mk hz
    rw [findC_yes d hz]
    unfold OrdV.val at hy
    simp only at hy
    clear hY ih hS hDd hR hz ho hai hfr hB0
    go_enter Try.func48, Try.ntmps48
    go_upto_region 1 with fail
    refine (wpIn_wide (n := 3)).1 ?_
    gi_wp2_with (first | (refine ⟨hd1 _, ?_⟩; refine hR2.mono ?_; rintro e W1 ⟨rfl, hD1⟩) | (refine hR2.mono ?_; rintro e W1 ⟨rfl, hD1⟩))
    go_wp2_with fail
    go_ret
    exact .inr ⟨_, rfl, rfl, _, rfl, Z.out, hD1⟩
  · obtain ⟨fn, tmps, assign, body, hy, hR⟩ := hY 2 ⟨B, k, cb, os⟩ W hB0 ho
    have hR2 := hR.mono (R' := fun e W' => e = .returned (.bool true) ∧ Below W.heap.size W W') (by
      rintro e W' (⟨_, h1, h2⟩ | ⟨h, _⟩)
      · exact ⟨h1, h2⟩
      · exact absurd h hz)
    rw [findC_no d hz]
    unfold OrdV.val at hy
    simp only at hy
    have hk := ho.len
    have hnl := hS.hist.len
    have hSW := hS.below hB0
    have S := Asd.mk (fun Wx (h : Below W.heap.size W Wx) => hSW.below h)
    have O := Asd.mk (fun Wx (h : Below W.heap.size W Wx) => ho.below h)
    have IH : Asd (∀ d', d = d' + 1 → ∀ Wx, Below W.heap.size W Wx → ∀ (B : Option Addr) (k cb : Nat) (os : List Int), Ints base Wx B k cb os → AllIn hs os → freeN n os ≤ d' → k + d' ≤ 8 →
      Calls Try.prog 48 #[.slice B k cb, .func (.yield l) #[] #[], .pointer (some ⟨bn, 0, none⟩), .pointer (some ⟨bw, 0, none⟩), .pointer (some ⟨bf, 0, none⟩)] Wx (FromPost hs D Wx (findC hs d' os))) :=
      ⟨fun d' e Wx h B k cb os h1 h2 h3 h4 => ih d' e Wx B k cb os (hB0.trans (h.mono hB0.size)) h1 h2 h3 h4⟩
    have WC : Asd (∀ Wx, Below W.heap.size W Wx → ∀ (B : Option Addr) (k cb : Nat) (os : List Int), Ints base Wx B k cb os → AllIn hs os →
      Calls Try.prog 28 #[.slice B k cb, .pointer (some ⟨hb, 0, none⟩)] Wx fun e w' => e = .returned (.bool (wrongP hs os)) ∧ Below Wx.heap.size Wx w') :=
      ⟨fun Wx h B k cb os h1 h2 => wrong_calls (S.out Wx h).ch (S.out Wx h).lh (S.out Wx h).hist h1 h2 (Nat.le_trans (Nat.le_trans hbs hB0.size) h.size)⟩
    have N := Asd.mk hnl
    have K := Asd.mk hk
    have AI := Asd.mk hai
    have FR := Asd.mk hfr
    have KD := Asd.mk hkd
    have HB := Asd.mk (Nat.le_trans hbs hB0.size)
    clear hY ih hS hSW hDd hR hz ho hai hfr hB0 hk hnl hkd hbs
    generalize hr : tryI (stepC hs d os) hs.length = r
    have R := Asd.mk hr
    clear hr
    have nc := fun x h => (S.out x h).cn
    go_enter Try.func48, Try.ntmps48
    go_upto_region 1 with fail
    refine (wpIn_wide (n := 3)).1 ?_
    gi_wp2_with (first | (refine ⟨hd1 _, ?_⟩; refine hR2.mono ?_; rintro e W1 ⟨rfl, hb1⟩) | (refine hR2.mono ?_; rintro e W1 ⟨rfl, hb1⟩))
    have cn1 := nc _ hb1
    have B1 := Asd.mk hb1
    clear hb1 nc hy hR2
    go_wp2_with fail
    go_loopw [15] (fun s15 wr => ∃ i : Nat, s15 = .int .i64 i ∧ i ≤ n ∧ Asd (Below W.heap.size W wr) ∧ Asd (∀ j, j < i → stepC hs d os j = none)) (fun s15 _ => n - (intOf s15).toNat)
    case atStart => exact ⟨0, rfl, Nat.zero_le _, B1, ⟨fun j hj => absurd hj (Nat.not_lt_zero _)⟩⟩
    case round =>
      obtain ⟨i, rfl, hin, BW, I⟩ := hrel
      by_cases hlt : i < n
      · have hhit : ∀ x, stepC hs d os i = some x → r = some x := fun x e => R.out.symm.trans (tryI_hit (by have := N.out; omega) e I.out)
        have hnx : stepC hs d os i = none → ∀ j, j < i + 1 → stepC hs d os j = none := fun e j hj => by
          rcases Nat.lt_or_ge j i with h1 | h1
          · exact I.out j h1
          · obtain rfl : j = i := by omega
            exact e
        have HIT := Asd.mk hhit
        have NX := Asd.mk hnx
        clear hhit hnx
        have hcl := Clone_int wr B k cb _ (O.out wr BW.out).rd (intCs_one os) (by have := KD.out; omega)
        have OWr := Asd.mk (O.out wr BW.out)
        go_wp2_with fail
        refine hcl.mono ?_
        clear hcl
        rintro e w1 ⟨A1, c1, rfl, hR1, hO1, hb1⟩
        have O1 := Asd.mk hO1
        have BA := Asd.mk hb1
        clear hR1 hO1 hb1
        go_wp2_with (at_builtin; refine wpList_append_mine (base := base) (own := wr.heap.size) (v := .slice A1 k c1) (n := k) (m := 1) (xs := intCs os) (ys := [.int .i64 i]) rfl (.tmp 19) (.tmp 21) 24 rfl elt_i rfl rfl (O1.out.alloc _) (Rd.new_ rfl rfl) (fun u hu => by simp at hu; subst hu; rfl) (by have := KD.out; simp only [maxLen]; omega) (by have := KD.out; omega) (by have := BA.out.size; simp; omega) ?_; intro v' w2 hO2 hG2; obtain ⟨A2, c2, rfl, hR2⟩ := Rd.of_own (base := base) hO2)
        have hb2 : Below wr.heap.size wr w2 := (BA.out.alloc BA.out.size _).grown hG2 (by have := BA.out.size; simp; omega) (fun j hj => own_ge O1.out hj)
        have B2 := Asd.mk (BW.out.trans (hb2.mono BW.out.size))
        have X2 : Asd (Ints base w2 A2 (k + 1) c2 (os ++ [(i : Int)])) := ⟨⟨by have := hR2; unfold intCs at this; rw [List.flatMap_append]; exact this, by have := KD.out; omega⟩⟩
        have hk2 := Contains_int w2 B k cb os (i : Int) (O.out w2 B2.out)
        clear O1 BA hO2 hG2 hR2 hb2 OWr
        by_cases hm : (i : Int) ∈ os
        · have hk3 := hk2 true (decide_eq_true hm)
          have NX2 := Asd.mk (NX.out (stepC_in hm))
          clear hk2 hm HIT NX
          refine hk3.mono ?_
          clear hk3
          rintro e w3 ⟨rfl, hb3⟩
          have B3 := Asd.mk (B2.out.trans (hb3.mono B2.out.size))
          clear hb3
          go_wp2_with fail
          go_roundw
          case measure => simp [intOf]; omega
          case rel => exact ⟨i + 1, by go_num, by omega, B3, NX2⟩
        · have hk3 := hk2 false (decide_eq_false hm)
          have hai2 : AllIn hs (os ++ [(i : Int)]) := by
            intro o ho
            rcases List.mem_append.1 ho with h | h
            · exact AI.out o h
            · rw [List.mem_singleton.1 h]
              have := N.out
              omega
          have AI2 := Asd.mk hai2
          have hd0 : 0 < d := Nat.lt_of_lt_of_le (freeN_pos hlt hm) FR.out
          obtain ⟨d', rfl⟩ : ∃ d', d = d' + 1 := ⟨d - 1, by omega⟩
          have FR2 : Asd (freeN n (os ++ [(i : Int)]) ≤ d') := ⟨by have := freeN_snoc hlt hm; have := FR.out; omega⟩
          have SC := Asd.mk (fun h => stepC_wrong (hs := hs) (d := d' + 1) hm h)
          have SG := Asd.mk (fun h => stepC_go (hs := hs) (d := d') hm h)
          clear hk2 hm hai2 hd0
          refine hk3.mono ?_
          clear hk3
          rintro e w3 ⟨rfl, hb3⟩
          have X3 := Asd.mk (X2.out.below hb3)
          have B3 := Asd.mk (B2.out.trans (hb3.mono B2.out.size))
          clear hb3
          have s3 := (S.out w3 B3.out).cw
          have wc := WC.out w3 B3.out A2 (k + 1) c2 _ X3.out AI2.out
          cases hw : wrongP hs (os ++ [(i : Int)]) with
          | true =>
            rw [hw] at wc
            have NX2 := Asd.mk (NX.out (SC.out hw))
            clear hw SC SG
            go_wp2_with fail
            refine wc.mono ?_
            clear wc
            rintro e w4 ⟨rfl, hb4⟩
            have B4 := Asd.mk (B3.out.trans (hb4.mono B3.out.size))
            clear hb4
            go_wp2_with fail
            go_roundw
            case measure => simp [intOf]; omega
            case rel => exact ⟨i + 1, by go_num, by omega, B4, NX2⟩
          | false =>
            rw [hw] at wc
            have SG2 := Asd.mk (SG.out hw)
            clear hw SC SG
            go_wp2_with fail
            refine wc.mono ?_
            clear wc
            rintro e w4 ⟨rfl, hb4⟩
            have X4 := Asd.mk (X3.out.below hb4)
            have B4 := Asd.mk (B3.out.trans (hb4.mono B3.out.size))
            clear hb4
            have s4 := (S.out w4 B4.out).cf
            have fc := IH.out d' rfl w4 B4.out A2 (k + 1) c2 _ X4.out AI2.out FR2.out (by have := KD.out; omega)
            generalize hq : findC hs d' (os ++ [(i : Int)]) = q at fc
            have Q := Asd.mk hq
            clear hq
            go_wp2_with fail
            refine fc.mono ?_
            clear fc
            rintro e w5 (⟨rfl, rfl, hb5⟩ | ⟨os2, rfl, rfl, x, rfl, hx, hD⟩)
            · have B5 := Asd.mk (B4.out.trans (hb5.mono B4.out.size))
              have NX2 := Asd.mk (NX.out (SG2.out.trans Q.out))
              clear hb5
              go_wp2_with fail
              go_roundw
              case measure => simp [intOf]; omega
              case rel => exact ⟨i + 1, by go_num, by omega, B5, NX2⟩
            · have HT := Asd.mk (HIT.out _ (SG2.out.trans Q.out))
              have XX := Asd.mk hx
              have DD := Asd.mk hD
              clear hx hD
              go_wp2_with fail
              go_ret
              exact .inr ⟨_, HT.out, rfl, x, rfl, XX.out, DD.out⟩
      · have RN : Asd (r = none) := ⟨R.out.symm.trans (tryI_none fun j hj => I.out j (by have := N.out; omega))⟩
        clear I
        go_wp2_with fail
        go_ret
        exact .inl ⟨RN.out, rfl, BW.out⟩

end Go.Proofs.Ytlhjfblpinpjiaa

/- The book: the same rows, the same results. -/
import Derived.Test.YtlhjfblpinpjiaaTb8w
set_option linter.unusedVariables false
set_option linter.unusedSimpArgs false
namespace Go.Proofs.Ytlhjfblpinpjiaa
open Go.RowKit

instance : DecidableEq Rw := fun a b => by
  rcases a with ⟨k, s, v⟩
  rcases b with ⟨k', s', v'⟩
  exact if h : k = k' ∧ s = s' ∧ v = v' then .isTrue (by obtain ⟨rfl, rfl, rfl⟩ := h; rfl) else .isFalse (fun e => h (by injection e with e1 e2 e3; exact ⟨e1, e2, e3⟩))

set_option maxHeartbeats 2000000 in
theorem SameRows_quiet {base : Nat} {w : World} {A B : Option Addr} {n c m d : Nat} {l r : List Rw} (ha : Rd base 86 w 3 A n c (rowCells l)) (hb : Rd base 86 w 3 B m d (rowCells r)) (hbig : n ≤ 140737488355328) :
    Calls Try.prog 20 #[.slice A n c, .slice B m d] w fun e w' => e = .returned (.bool (decide (l = r))) ∧ ∃ q, w' = w.drewN q := by
  have hl := ha.count (enc := Rw.enc) (fun _ => rfl) (by omega)
  have hr := hb.count (enc := Rw.enc) (fun _ => rfl) (by omega)
  have RA := Asd.mk ha
  have RB := Asd.mk hb
  clear ha hb
  by_cases hnm : n = m
  · subst hnm
    have HL := Asd.mk hl
    have HR := Asd.mk hr
    clear hl hr
    go_enter Try.func20, Try.ntmps20
    go_wp2
    go_loopw [5] (fun s5 wr => ∃ k : Nat, s5 = .int .i64 k ∧ k ≤ n ∧ Asd (∃ q, wr = w.drewN q) ∧ Asd (l.take k = r.take k)) (fun s5 _ => n - (intOf s5).toNat)
    case atStart => exact ⟨0, rfl, Nat.zero_le _, ⟨0, rfl⟩, ⟨rfl⟩⟩
    case round =>
      obtain ⟨k, rfl, hkn, ⟨q0, hq0⟩, I⟩ := hrel
      have BW := Asd.mk (show Below w.heap.size w wr by rw [hq0]; exact below_dn _ _)
      have QW := Asd.mk hq0
      clear hq0
      by_cases hlt : k < n
      · obtain ⟨b, off, rfl, hb, hil, c0, c1, c2⟩ := (RA.out.below BW.out).row hlt
        obtain ⟨b', off', rfl, hb', hil', d0, d1, d2⟩ := (RB.out.below BW.out).row hlt
        generalize hx : l[k] = x at c0 c1 c2
        generalize hy : r[k] = y at d0 d1 d2
        have X := Asd.mk hx
        have Y := Asd.mk hy
        clear hx hy
        by_cases hxy : x = y
        · subst hxy
          go_wp2_with fail
          go_quiet (fail)
          go_wp2_with fail
          go_roundw
          case measure => simp [intOf]; omega
          case rel =>
            refine ⟨k + 1, by go_num, by omega, ⟨_, by rw [QW.out, World.drewN_drewN]⟩, ⟨?_⟩⟩
            rw [List.take_succ_eq_append_getElem hil, List.take_succ_eq_append_getElem hil', I.out, X.out, Y.out]
        · have hlr : l ≠ r := by
            rintro rfl
            exact hxy (X.out.symm.trans Y.out)
          have NE := Asd.mk hlr
          clear hlr X Y
          obtain ⟨k1, s1, v1⟩ := x
          obtain ⟨k2, s2, v2⟩ := y
          simp only at c0 c1 c2 d0 d1 d2
          have ne_list : ∀ {a b : ByteArray}, a ≠ b → (a.toList == b.toList) = false ∧ ¬ a.toList = b.toList := fun {a b} h => ⟨by rw [same_eq]; exact decide_eq_false h, fun e => h (by rw [toList_eq, toList_eq] at e; exact key_ext e)⟩
          have NL := Asd.mk @ne_list
          clear ne_list
          by_cases hk : k1 = k2
          · subst hk
            by_cases hs : s1 = s2
            · subst hs
              have hv : v1 ≠ v2 := fun e => hxy (by rw [e])
              obtain ⟨q1, q2⟩ := NL.out hv
              clear hxy hv
              go_wp2_with fail
              go_quiet (fail)
              go_wp2_with fail
              go_ret
              exact ⟨by rw [decide_eq_false NE.out]; rfl, _, by rw [QW.out, World.drewN_drewN]⟩
            · have q1 : (s1 == s2) = false := by simpa using hs
              clear hxy
              go_wp2_with fail
              go_quiet (fail)
              go_wp2_with fail
              go_ret
              exact ⟨by rw [decide_eq_false NE.out]; rfl, _, by rw [QW.out, World.drewN_drewN]⟩
          · obtain ⟨q1, q2⟩ := NL.out hk
            clear hxy
            go_wp2_with fail
            go_quiet (fail)
            go_wp2_with fail
            go_ret
            exact ⟨by rw [decide_eq_false NE.out]; rfl, _, by rw [QW.out, World.drewN_drewN]⟩
      · have : k = n := by omega
        subst this
        go_wp2_with fail
        go_ret
        have hlr : l = r := by
          have h1 : l.take k = l := List.take_of_length_le (by rw [HL.out]; exact Nat.le_refl _)
          have h2 : r.take k = r := List.take_of_length_le (by rw [HR.out]; exact Nat.le_refl _)
          rw [← h1, ← h2, I.out]
        exact ⟨by rw [decide_eq_true hlr]; rfl, _, QW.out⟩
  · have hne : l ≠ r := by rintro rfl; omega
    have hnm' : ((n : Int) == (m : Int)) = false := by rw [beq_eq_false_iff_ne]; omega
    have hnm'' : ((n : Int) != (m : Int)) = true := by rw [bne_iff_ne]; omega
    have NE := Asd.mk hne
    clear hne hl hr
    go_enter Try.func20, Try.ntmps20
    go_wp2_with fail
    go_ret
    exact ⟨by rw [decide_eq_false NE.out]; rfl, 0, rfl⟩
theorem SameRows_calls {base : Nat} {w : World} {A B : Option Addr} {n c m d : Nat} {l r : List Rw} (ha : Rd base 86 w 3 A n c (rowCells l)) (hb : Rd base 86 w 3 B m d (rowCells r)) (hbig : n ≤ 140737488355328) :
    Calls Try.prog 20 #[.slice A n c, .slice B m d] w fun e w' => e = .returned (.bool (decide (l = r))) ∧ Below w.heap.size w w' :=
  (SameRows_quiet ha hb hbig).mono fun e w' ⟨h, q, hq⟩ => ⟨h, by rw [hq]; exact below_dn _ _⟩

end Go.Proofs.Ytlhjfblpinpjiaa

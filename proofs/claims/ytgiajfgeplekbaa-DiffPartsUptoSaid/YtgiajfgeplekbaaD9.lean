/- The book: the same texts, the same spans. -/
import Derived.Test.YtgiajfgeplekbaaD8
set_option linter.unusedVariables false
set_option linter.unusedSimpArgs false
namespace Go.Proofs.Ytgiajfgeplekbaa
open Go.RowKit

structure SpanR where
  from_ : ByteArray
  to_ : ByteArray
def SpanR.enc (s : SpanR) : List Value := [.string s.from_, .string s.to_]
instance : DecidableEq SpanR := fun a b => by
  rcases a with ⟨f, t⟩
  rcases b with ⟨f', t'⟩
  exact if h : f = f' ∧ t = t' then .isTrue (by obtain ⟨rfl, rfl⟩ := h; rfl) else .isFalse (fun e => h (by injection e with e1 e2; exact ⟨e1, e2⟩))
def tEnc (s : ByteArray) : List Value := [.string s]

set_option maxHeartbeats 2000000 in
theorem SameTexts_calls {base : Nat} {w : World} {A B : Option Addr} {n c m d : Nat} {l r : List ByteArray} (ha : Rd base 9 w 1 A n c (l.flatMap tEnc)) (hb : Rd base 9 w 1 B m d (r.flatMap tEnc)) (hbig : n ≤ 140737488355328) :
    Calls Try.prog 13 #[.slice A n c, .slice B m d] w fun e w' => e = .returned (.bool (decide (l = r))) ∧ ∃ q, w' = w.drewN q := by
  have hl := ha.count (enc := tEnc) (fun _ => rfl) (by omega)
  have hr := hb.count (enc := tEnc) (fun _ => rfl) (by omega)
  have RA := Asd.mk ha
  have RB := Asd.mk hb
  clear ha hb
  by_cases hnm : n = m
  · subst hnm
    have HL := Asd.mk hl
    have HR := Asd.mk hr
    clear hl hr
    go_enter Try.func13, Try.ntmps13
    go_wp2
    go_loopw [5] (fun s5 wr => ∃ k : Nat, s5 = .int .i64 k ∧ k ≤ n ∧ Asd (∃ q, wr = w.drewN q) ∧ Asd (l.take k = r.take k)) (fun s5 _ => n - (intOf s5).toNat)
    case atStart => exact ⟨0, rfl, Nat.zero_le _, ⟨0, rfl⟩, ⟨rfl⟩⟩
    case round =>
      obtain ⟨k, rfl, hkn, ⟨q0, hq0⟩, I⟩ := hrel
      have BW := Asd.mk (show Below w.heap.size w wr by rw [hq0]; exact below_dn _ _)
      have QW := Asd.mk hq0
      clear hq0
      by_cases hlt : k < n
      · obtain ⟨b, off, rfl, hb, hil, hcs⟩ := (RA.out.below BW.out).at_enc (enc := tEnc) (fun _ => rfl) (by omega) hlt
        obtain ⟨b', off', rfl, hb', hil', hds⟩ := (RB.out.below BW.out).at_enc (enc := tEnc) (fun _ => rfl) (by omega) hlt
        have c0 : wr.cell? ⟨b, off + k, none⟩ = some (.string l[k]) := by simpa using hcs 0 _ rfl
        have d0 : wr.cell? ⟨b', off' + k, none⟩ = some (.string r[k]) := by simpa using hds 0 _ rfl
        generalize hx : l[k] = x at c0
        generalize hy : r[k] = y at d0
        clear hcs hds
        have X := Asd.mk hx
        have Y := Asd.mk hy
        clear hx hy
        by_cases hxy : x = y
        · subst hxy
          go_wp2_with fail
          go_quiet (fail)
          go_wp2_with fail
          go_roundw
          case measure => simp [intOf]; omega
          case rel =>
            refine ⟨k + 1, by go_num, by omega, ⟨_, by rw [QW.out, World.drewN_drewN]⟩, ⟨?_⟩⟩
            rw [List.take_succ_eq_append_getElem hil, List.take_succ_eq_append_getElem hil', I.out, X.out, Y.out]
        · have hlr : l ≠ r := by
            rintro rfl
            exact hxy (X.out.symm.trans Y.out)
          have NE := Asd.mk hlr
          clear hlr X Y
          have ne_list : ∀ {a b : ByteArray}, a ≠ b → (a.toList == b.toList) = false ∧ ¬ a.toList = b.toList := fun {a b} h => ⟨by rw [same_eq]; exact decide_eq_false h, fun e => h (by rw [toList_eq, toList_eq] at e; exact key_ext e)⟩
          have NL := Asd.mk @ne_list
          clear ne_list
          obtain ⟨q1, q2⟩ := NL.out hxy
          clear hxy
          go_wp2_with fail
          go_quiet (fail)
          go_wp2_with fail
          go_ret
          exact ⟨by rw [decide_eq_false NE.out]; rfl, _, by rw [QW.out, World.drewN_drewN]⟩
      · have : k = n := by omega
        subst this
        go_wp2_with fail
        go_ret
        have hlr : l = r := by
          have h1 : l.take k = l := List.take_of_length_le (by rw [HL.out]; exact Nat.le_refl _)
          have h2 : r.take k = r := List.take_of_length_le (by rw [HR.out]; exact Nat.le_refl _)
          rw [← h1, ← h2, I.out]
        exact ⟨by rw [decide_eq_true hlr]; rfl, _, QW.out⟩
  · have hne : l ≠ r := by rintro rfl; omega
    have hnm' : ((n : Int) == (m : Int)) = false := by rw [beq_eq_false_iff_ne]; omega
    have hnm'' : ((n : Int) != (m : Int)) = true := by rw [bne_iff_ne]; omega
    have NE := Asd.mk hne
    clear hne hl hr
    go_enter Try.func13, Try.ntmps13
    go_wp2_with fail
    go_ret
    exact ⟨by rw [decide_eq_false NE.out]; rfl, 0, rfl⟩

set_option maxHeartbeats 2000000 in
theorem SameSpans_calls {base : Nat} {w : World} {A B : Option Addr} {n c m d : Nat} {l r : List SpanR} (ha : Rd base 39 w 2 A n c (l.flatMap SpanR.enc)) (hb : Rd base 39 w 2 B m d (r.flatMap SpanR.enc)) (hbig : n ≤ 140737488355328) :
    Calls Try.prog 25 #[.slice A n c, .slice B m d] w fun e w' => e = .returned (.bool (decide (l = r))) ∧ ∃ q, w' = w.drewN q := by
  have hl := ha.count (enc := SpanR.enc) (fun _ => rfl) (by omega)
  have hr := hb.count (enc := SpanR.enc) (fun _ => rfl) (by omega)
  have RA := Asd.mk ha
  have RB := Asd.mk hb
  clear ha hb
  by_cases hnm : n = m
  · subst hnm
    have HL := Asd.mk hl
    have HR := Asd.mk hr
    clear hl hr
    go_enter Try.func25, Try.ntmps25
    go_wp2
    go_loopw [5] (fun s5 wr => ∃ k : Nat, s5 = .int .i64 k ∧ k ≤ n ∧ Asd (∃ q, wr = w.drewN q) ∧ Asd (l.take k = r.take k)) (fun s5 _ => n - (intOf s5).toNat)
    case atStart => exact ⟨0, rfl, Nat.zero_le _, ⟨0, rfl⟩, ⟨rfl⟩⟩
    case round =>
      obtain ⟨k, rfl, hkn, ⟨q0, hq0⟩, I⟩ := hrel
      have BW := Asd.mk (show Below w.heap.size w wr by rw [hq0]; exact below_dn _ _)
      have QW := Asd.mk hq0
      clear hq0
      by_cases hlt : k < n
      · obtain ⟨b, off, rfl, hb, hil, hcs⟩ := (RA.out.below BW.out).at_enc (enc := SpanR.enc) (fun _ => rfl) (by omega) hlt
        obtain ⟨b', off', rfl, hb', hil', hds⟩ := (RB.out.below BW.out).at_enc (enc := SpanR.enc) (fun _ => rfl) (by omega) hlt
        have c0 : wr.cell? ⟨b, off + k * 2, none⟩ = some (.string l[k].from_) := hcs 0 _ rfl
        have c1 : wr.cell? ⟨b, off + k * 2 + 1, none⟩ = some (.string l[k].to_) := hcs 1 _ rfl
        have d0 : wr.cell? ⟨b', off' + k * 2, none⟩ = some (.string r[k].from_) := hds 0 _ rfl
        have d1 : wr.cell? ⟨b', off' + k * 2 + 1, none⟩ = some (.string r[k].to_) := hds 1 _ rfl
        generalize hx : l[k] = x at c0 c1
        generalize hy : r[k] = y at d0 d1
        clear hcs hds
        have X := Asd.mk hx
        have Y := Asd.mk hy
        clear hx hy
        by_cases hxy : x = y
        · subst hxy
          go_wp2_with fail
          go_quiet (fail)
          go_wp2_with fail
          go_roundw
          case measure => simp [intOf]; omega
          case rel =>
            refine ⟨k + 1, by go_num, by omega, ⟨_, by rw [QW.out, World.drewN_drewN]⟩, ⟨?_⟩⟩
            rw [List.take_succ_eq_append_getElem hil, List.take_succ_eq_append_getElem hil', I.out, X.out, Y.out]
        · have hlr : l ≠ r := by
            rintro rfl
            exact hxy (X.out.symm.trans Y.out)
          have NE := Asd.mk hlr
          clear hlr X Y
          have ne_list : ∀ {a b : ByteArray}, a ≠ b → (a.toList == b.toList) = false ∧ ¬ a.toList = b.toList := fun {a b} h => ⟨by rw [same_eq]; exact decide_eq_false h, fun e => h (by rw [toList_eq, toList_eq] at e; exact key_ext e)⟩
          have NL := Asd.mk @ne_list
          clear ne_list
          obtain ⟨f1, t1⟩ := x
          obtain ⟨f2, t2⟩ := y
          simp only at c0 c1 d0 d1
          by_cases hf : f1 = f2
          · subst hf
            have ht : t1 ≠ t2 := fun e => hxy (by rw [e])
            obtain ⟨q1, q2⟩ := NL.out ht
            clear hxy ht
            go_wp2_with fail
            go_quiet (fail)
            go_wp2_with fail
            go_ret
            exact ⟨by rw [decide_eq_false NE.out]; rfl, _, by rw [QW.out, World.drewN_drewN]⟩
          · obtain ⟨q1, q2⟩ := NL.out hf
            clear hxy hf
            go_wp2_with fail
            go_quiet (fail)
            go_wp2_with fail
            go_ret
            exact ⟨by rw [decide_eq_false NE.out]; rfl, _, by rw [QW.out, World.drewN_drewN]⟩
      · have : k = n := by omega
        subst this
        go_wp2_with fail
        go_ret
        have hlr : l = r := by
          have h1 : l.take k = l := List.take_of_length_le (by rw [HL.out]; exact Nat.le_refl _)
          have h2 : r.take k = r := List.take_of_length_le (by rw [HR.out]; exact Nat.le_refl _)
          rw [← h1, ← h2, I.out]
        exact ⟨by rw [decide_eq_true hlr]; rfl, _, QW.out⟩
  · have hne : l ≠ r := by rintro rfl; omega
    have hnm' : ((n : Int) == (m : Int)) = false := by rw [beq_eq_false_iff_ne]; omega
    have hnm'' : ((n : Int) != (m : Int)) = true := by rw [bne_iff_ne]; omega
    have NE := Asd.mk hne
    clear hne hl hr
    go_enter Try.func25, Try.ntmps25
    go_wp2_with fail
    go_ret
    exact ⟨by rw [decide_eq_false NE.out]; rfl, 0, rfl⟩

end Go.Proofs.Ytgiajfgeplekbaa

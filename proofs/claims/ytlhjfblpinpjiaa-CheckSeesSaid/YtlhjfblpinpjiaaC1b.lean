/- The same results, as the document has it. -/
import Derived.Test.YtlhjfblpinpjiaaC1
set_option linter.unusedVariables false
set_option linter.unusedSimpArgs false
namespace Go.Proofs.Ytlhjfblpinpjiaa
open Go.RowKit

set_option maxHeartbeats 8000000 in
set_option maxRecDepth 100000 in
theorem RSameResults_calls {base : Nat} {w : World} {A B : Option Addr} {n c m d : Nat} {rr ss : List RRes} {rs ts : List Res} (ha : Rd base 47 w 4 A n c (resCells rr)) (hb : Rd base 47 w 4 B m d (resCells ss)) (h1 : All2 (RIn base w) rr rs) (h2 : All2 (RIn base w) ss ts) (hbig : n ≤ 140737488355328) (hbig2 : m ≤ 140737488355328) :
    Calls Try.prog 58 #[.slice A n c, .slice B m d] w fun e w' => e = .returned (.bool (decide (rs = ts))) ∧ ∃ q, w' = w.drewN q := by
  have hl := ha.count (enc := RRes.enc) (fun _ => rfl) (by omega)
  have hr := hb.count (enc := RRes.enc) (fun _ => rfl) (by omega)
  have e1 := All2.len h1
  have e2 := All2.len h2
  have RA := Asd.mk ha
  have RB := Asd.mk hb
  have H1 := Asd.mk h1
  have H2 := Asd.mk h2
  clear ha hb h1 h2
  by_cases hnm : n = m
  · subst hnm
    have L1 : Asd (rs.length = n) := ⟨by omega⟩
    have L2 : Asd (ts.length = n) := ⟨by omega⟩
    clear hl hr e1 e2
    go_enter Try.func58, Try.ntmps58
    go_wp2
    go_loopw [5] (fun s5 wr => ∃ k : Nat, s5 = .int .i64 k ∧ k ≤ n ∧ Asd (∃ q, wr = w.drewN q) ∧ Asd (rs.take k = ts.take k)) (fun s5 _ => n - (intOf s5).toNat)
    case atStart => exact ⟨0, rfl, Nat.zero_le _, ⟨0, rfl⟩, ⟨rfl⟩⟩
    case round =>
      obtain ⟨k, rfl, hkn, ⟨q0, hq0⟩, I⟩ := hrel
      have BW := Asd.mk (show Below w.heap.size w wr by rw [hq0]; exact below_dn _ _)
      have QW := Asd.mk hq0
      clear hq0
      by_cases hlt : k < n
      · obtain ⟨b, off, rfl, hbl, hil, hcs⟩ := (RA.out.below BW.out).at_enc (enc := RRes.enc) (fun _ => rfl) (by omega) hlt
        obtain ⟨b', off', rfl, hbl', hil', hds⟩ := (RB.out.below BW.out).at_enc (enc := RRes.enc) (fun _ => rfl) (by omega) hlt
        have hrl : k < rs.length := by have := L1.out; omega
        have htl : k < ts.length := by have := L2.out; omega
        have hcc : k < c := Nat.lt_of_lt_of_le hlt RA.out.cap
        have hcd : k < d := Nat.lt_of_lt_of_le hlt RB.out.cap
        have m1 := (H1.out.at_ k hil hrl).below BW.out
        have m2 := (H2.out.at_ k hil' htl).below BW.out
        have YES : Asd (rs[k] = ts[k] → rs.take (k + 1) = ts.take (k + 1)) := ⟨fun e => by rw [List.take_succ_eq_append_getElem hrl, List.take_succ_eq_append_getElem htl, I.out, e]⟩
        have NOT : Asd (rs[k] ≠ ts[k] → rs ≠ ts) := ⟨fun h e => h (by subst e; rfl)⟩
        generalize rr[k] = x at hcs m1
        generalize ss[k] = y at hds m2
        generalize rs[k] = r at m1 YES NOT
        generalize ts[k] = s at m2 YES NOT
        obtain ⟨k1, s1, v1, A1, n1, c1'⟩ := x
        obtain ⟨k2, s2, v2, A2, n2, c2'⟩ := y
        obtain ⟨k1', s1', v1', l1⟩ := r
        obtain ⟨k2', s2', v2', l2⟩ := s
        obtain ⟨f1, f2, f3, hr1, hb1⟩ := m1
        obtain ⟨f4, f5, f6, hr2, hb2⟩ := m2
        simp only at f1 f2 f3 f4 f5 f6 hr1 hr2 hb1 hb2
        subst f1 f2 f3 f4 f5 f6
        have c0 := hcs 0 _ rfl
        have c1 := hcs 1 _ rfl
        have c2 := hcs 2 _ rfl
        have c3 := hcs 3 _ rfl
        have d0 := hds 0 _ rfl
        have d1 := hds 1 _ rfl
        have d2 := hds 2 _ rfl
        have d3 := hds 3 _ rfl
        rw [Nat.add_zero] at c0 d0
        have SRQ := Asd.mk (fun (q : Nat) => RSameRows_quiet (hr1.drewN q) (hr2.drewN q) hb1)
        clear hcs hds hr1 hr2
        by_cases hc : k1 = k2
        · subst hc
          by_cases hs : s1 = s2
          · subst hs
            by_cases hv : v1 = v2
            · subst hv
              by_cases hll : l1 = l2
              · subst hll
                rw [decide_eq_true rfl] at SRQ
                have Y := Asd.mk (YES.out rfl)
                clear YES NOT
                go_wp2_with fail
                go_quiet ((go_at_call 72; exact Calls.quiet_of (SRQ.out _)))
                go_wp2_with fail
                go_roundw
                case measure => simp [intOf]; omega
                case rel => exact ⟨k + 1, by go_num, by omega, ⟨_, by rw [QW.out, World.drewN_drewN]⟩, Y⟩
              · rw [decide_eq_false hll] at SRQ
                have NO := Asd.mk (NOT.out (fun e => hll (by injection e)))
                clear YES NOT hll
                go_wp2_with fail
                go_quiet ((go_at_call 72; exact Calls.quiet_of (SRQ.out _)))
                go_wp2_with fail
                go_ret
                exact ⟨by rw [decide_eq_false NO.out]; rfl, _, by rw [QW.out, World.drewN_drewN]⟩
            · have NO := Asd.mk (NOT.out (fun e => hv (by injection e)))
              obtain ⟨q1, q2⟩ := ne_text hv
              clear YES NOT hv
              go_wp2_with fail
              go_quiet ((go_at_call 72; exact Calls.quiet_of (SRQ.out _)))
              go_wp2_with fail
              go_ret
              exact ⟨by rw [decide_eq_false NO.out]; rfl, _, by rw [QW.out, World.drewN_drewN]⟩
          · have NO := Asd.mk (NOT.out (fun e => hs (by injection e)))
            have q1 : (s1 == s2) = false := by simpa using hs
            have q3 : (s1 != s2) = true := by simp [bne, q1]
            have q4 : decide (s1 = s2) = false := decide_eq_false hs
            clear YES NOT
            go_wp2_with fail
            go_quiet ((go_at_call 72; exact Calls.quiet_of (SRQ.out _)))
            go_wp2_with fail
            go_ret
            exact ⟨by rw [decide_eq_false NO.out]; rfl, _, by rw [QW.out, World.drewN_drewN]⟩
        · have NO := Asd.mk (NOT.out (fun e => hc (by injection e)))
          have q1 : (k1 == k2) = false := by simpa using hc
          have q3 : (k1 != k2) = true := by simp [bne, q1]
          have q4 : decide (k1 = k2) = false := decide_eq_false hc
          clear YES NOT
          go_wp2_with fail
          go_quiet ((go_at_call 72; exact Calls.quiet_of (SRQ.out _)))
          go_wp2_with fail
          go_ret
          exact ⟨by rw [decide_eq_false NO.out]; rfl, _, by rw [QW.out, World.drewN_drewN]⟩
      · have hlr : rs = ts := by
          have h1 : rs.take k = rs := List.take_of_length_le (by have := L1.out; omega)
          have h2 : ts.take k = ts := List.take_of_length_le (by have := L2.out; omega)
          rw [← h1, ← h2, I.out]
        have Y := Asd.mk hlr
        clear hlr
        go_wp2_with fail
        go_ret
        exact ⟨by rw [decide_eq_true Y.out]; rfl, _, QW.out⟩
  · have hne : rs ≠ ts := by rintro rfl; omega
    have hnm' : ((n : Int) == (m : Int)) = false := by rw [beq_eq_false_iff_ne]; omega
    have hnm'' : ((n : Int) != (m : Int)) = true := by rw [bne_iff_ne]; omega
    have NE := Asd.mk hne
    clear hne hl hr e1 e2
    go_enter Try.func58, Try.ntmps58
    go_wp2_with fail
    go_ret
    exact ⟨by rw [decide_eq_false NE.out]; rfl, 0, rfl⟩
end Go.Proofs.Ytlhjfblpinpjiaa

/- The same results. -/
import Derived.Test.YtehfaeafefkngaaTl1
set_option linter.unusedVariables false
set_option linter.unusedSimpArgs false
namespace Go.Proofs.Ytehfaeafefkngaa
open Go.RowKit

set_option maxHeartbeats 4000000 in
set_option maxRecDepth 100000 in
/-- Lists of the same results are told to be the same. -/
theorem SameResults_yes {base B1 B2 : Nat} {w : World} {A B : Option Addr} {n c m d : Nat} {rr ss : List RRes} {rs : List Res} (ha : Rd base 39 w 4 A n c (resCells rr)) (hb : Rd base 39 w 4 B m d (resCells ss))
    (h1 : RMs base B1 w rr rs) (h2 : RMs base B2 w ss rs) (hbig : n ≤ 140737488355328) (hrows : ∀ r ∈ rs, r.rows.length ≤ 140737488355328) :
    Calls Try.prog 22 #[.slice A n c, .slice B m d] w fun e w' => e = .returned (.bool true) ∧ ∃ q, w' = w.drewN q := by
  have hl := ha.count (enc := RRes.enc) (fun _ => rfl) (by omega)
  have hr := hb.count (enc := RRes.enc) (fun _ => rfl) (by omega)
  have e1 := h1.len
  have e2 := h2.len
  obtain rfl : m = n := by omega
  have RA := Asd.mk ha
  have RB := Asd.mk hb
  have H1 := Asd.mk h1
  have H2 := Asd.mk h2
  have HR := Asd.mk hrows
  have L1 := Asd.mk hl
  have L2 := Asd.mk hr
  have L3 := Asd.mk e1
  clear ha hb h1 h2 hrows hl hr e1 e2
  go_enter Try.func22, Try.ntmps22
  go_wp2
  go_loopw [5] (fun s5 wr => ∃ k : Nat, s5 = .int .i64 k ∧ k ≤ m ∧ Asd (∃ q, wr = w.drewN q)) (fun s5 _ => m - (intOf s5).toNat)
  case atStart => exact ⟨0, rfl, Nat.zero_le _, ⟨0, rfl⟩⟩
  case round =>
    obtain ⟨k, rfl, hkn, ⟨q0, hq0⟩⟩ := hrel
    have BW := Asd.mk (show Below w.heap.size w wr by rw [hq0]; exact below_dn _ _)
    have QW := Asd.mk hq0
    clear hq0
    by_cases hlt : k < m
    · obtain ⟨b, off, rfl, hb, hil, hcs⟩ := (RA.out.below BW.out).at_enc (enc := RRes.enc) (fun _ => rfl) (by omega) hlt
      obtain ⟨b', off', rfl, hb', hil', hds⟩ := (RB.out.below BW.out).at_enc (enc := RRes.enc) (fun _ => rfl) (by omega) hlt
      have hrl : k < rs.length := by have := L3.out; omega
      have m1 := (H1.out.at_ k hil hrl).below BW.out
      have m2 := (H2.out.at_ k hil' hrl).below BW.out
      have hbr := HR.out _ (List.getElem_mem hrl)
      generalize rr[k] = x at hcs m1
      generalize ss[k] = y at hds m2
      generalize rs[k] = r at m1 m2 hbr
      have c0 := hcs 0 _ rfl
      have c1 := hcs 1 _ rfl
      have c2 := hcs 2 _ rfl
      have c3 := hcs 3 _ rfl
      have d0 := hds 0 _ rfl
      have d1 := hds 1 _ rfl
      have d2 := hds 2 _ rfl
      have d3 := hds 3 _ rfl
      rw [Nat.add_zero] at c0 d0
      rw [m1.code] at c0
      rw [m1.stamp] at c1
      rw [m1.val] at c2
      rw [m2.code] at d0
      rw [m2.stamp] at d1
      rw [m2.val] at d2
      have hn1 : x.n = r.rows.length := (m1.rd.count (enc := Rw.enc) (fun _ => rfl) (by omega)).symm
      have hsr := fun (n : Nat) => SameRows_quiet (m1.rd.drewN n) (m2.rd.drewN n) (by omega)
      rw [decide_eq_true rfl] at hsr
      have SR := Asd.mk hsr
      clear hcs hds m1 m2 hn1 hsr hbr
      go_wp2_with fail
      go_quiet ((go_at_call 21; exact Calls.quiet_of (SR.out _)))
      go_wp2_with fail
      go_roundw
      case measure => simp [intOf]; omega
      case rel => exact ⟨k + 1, by go_num, by omega, _, by rw [QW.out, World.drewN_drewN]⟩
    · go_wp2_with fail
      go_ret
      exact ⟨rfl, _, QW.out⟩
end Go.Proofs.Ytehfaeafefkngaa

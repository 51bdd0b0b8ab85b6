/- SpanHas, the walk. -/
import Derived.Test.YtkjopeiohjkhoaaSv
import Derived.Test.YtkjopeiohjkhoaaSh
import Derived.Test.YtkjopeiohjkhoaaSg
set_option linter.unusedVariables false
set_option linter.unusedSimpArgs false
namespace Go.Proofs.Ytkjopeiohjkhoaa
open Go.RowKit Go.Sort

set_option maxHeartbeats 8000000 in
set_option maxRecDepth 100000 in
theorem SpanHas_walk {w : World} {A : Option Addr} {n c : Nat} {l : List SpanR} (hr : Rd w.heap.size 35 w 2 A n c (sCells l)) (key : ByteArray) (hbig : n * 32 ≤ 140737488355328) :
    Calls Try.prog 7 #[.slice A n c, .string key] w fun e w' => e = .returned (.bool true) ∧ Below w.heap.size w w' := by
  have R := Asd.mk hr
  have hmix : Try.prog.follows .mixedOrders = true := by kernel_rfl
  have hn : n ≤ 4398046511104 := by omega
  clear hr hbig
  go_enter Try.func7, Try.ntmps7
  go_wp2_with fail
  go_loopw [5] (fun s5 wr => ∃ k : Nat, s5 = .int .i64 k ∧ k ≤ n ∧ Asd (Below w.heap.size w wr)) (fun s5 _ => n - (intOf s5).toNat)
  case atStart => exact ⟨0, rfl, Nat.zero_le _, ⟨Below.refl _ _⟩⟩
  case round =>
    obtain ⟨k, rfl, hkn, BW⟩ := hrel
    by_cases hlt : k < n
    · obtain ⟨b, off, rfl, hb, hl, hcs⟩ := (R.out.below BW.out).at_enc (enc := SpanR.enc) (fun _ => rfl) (by omega) hlt
      have hcap : k < c := Nat.lt_of_lt_of_le hlt R.out.cap
      have hc := fun W => SpanCheck_g l[k] W
      have hd := fun W => RefCheck_g l[k] W
      generalize l[k] = y at hcs hc hd
      obtain ⟨f, t⟩ := y
      have c0 : wr.cell? ⟨b, off + k * 2, none⟩ = some (.string f) := hcs 0 _ rfl
      have c1 : wr.cell? ⟨b, off + k * 2 + 1, none⟩ = some (.string t) := hcs 1 _ rfl
      unfold SpanR.enc at hc hd
      generalize chkP ⟨f, t⟩ = v at hc hd
      have CK := Asd.mk hc
      have RK := Asd.mk hd
      have C0 := Asd.mk c0
      have C1 := Asd.mk c1
      have HB := Asd.mk hb
      clear hcs hc hd c0 c1 hb
      go_wp2_with fail
      have z0 : ∀ q os, (grow (wr.drewN q) os).cell? ⟨b, off + k * 2, none⟩ = some (.string f) := cell_grown HB.out C0.out
      have z1 : ∀ q os, (grow (wr.drewN q) os).cell? ⟨b, off + k * 2 + 1, none⟩ = some (.string t) := cell_grown HB.out C1.out
      refine wp_region_quiet_grown hmix (by kernel_rfl) ?_
      repeat (go_big_quiet_step (first | (go_at_call 22; exact Calls.grown_of (CK.out _)) | (go_at_call 23; exact Calls.grown_of (RK.out _))))
      refine wpQuiet_nil ?_
      intro _ hw'
      obtain ⟨⟨nq, osq⟩, hw''⟩ := hw'
      subst hw''
      clear z0 z1
      have B5 := Asd.mk (BW.out.trans ((below_grown wr nq osq).mono BW.out.size))
      generalize grow (wr.drewN nq) osq = w5 at *
      go_wp2_with fail
      go_roundw
      case measure => simp [intOf]; omega
      case rel => exact ⟨k + 1, by go_num, by omega, B5⟩
    · have hke : k = n := by omega
      have hH := fun W h => Has_calls (base := w.heap.size) (w := W) (A := A) (n := n) (c := c) (l := l) h (by omega) key
      have hF := fun W h => RefHas_calls (base := w.heap.size) (w := W) (A := A) (n := n) (c := c) (l := l) h (by omega) key
      generalize l.any (hasP key) = v at hH hF
      have HH := Asd.mk hH
      have HF := Asd.mk hF
      clear hH hF
      go_wp2_with fail
      refine (HH.out _ (R.out.below BW.out)).mono ?_
      rintro e w1 ⟨rfl, hb1⟩
      have B1 := Asd.mk (BW.out.trans (hb1.mono BW.out.size))
      clear hb1
      go_wp2_with fail
      refine (HF.out _ (R.out.below B1.out)).mono ?_
      rintro e w2 ⟨rfl, rfl⟩
      have hvv : (v == v) = true := by cases v <;> rfl
      go_wp2_with fail
      refine (works_calls _).mono ?_
      rintro e w3 ⟨rfl, hb3⟩
      have B3 := Asd.mk (B1.out.trans (hb3.mono B1.out.size))
      clear hb3
      go_wp2_with fail
      go_ret
      exact ⟨rfl, B3.out⟩
end Go.Proofs.Ytkjopeiohjkhoaa

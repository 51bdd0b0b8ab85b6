/- A table behind some operations. -/
import Derived.Test.YtehfaeafefkngaaTb8
import Derived.Test.YtehfaeafefkngaaTl1
set_option linter.unusedVariables false
set_option linter.unusedSimpArgs false
namespace Go.Proofs.Ytehfaeafefkngaa
open Go.RowKit

/-- A slice as it lies in memory. -/
structure RSl where
  A : Option Addr
  n : Nat
  c : Nat
def RSl.enc (q : RSl) : List Value := [.slice q.A q.n q.c]
structure OpsIn (base : Nat) (w : World) (q : RSl) (ops : List OpR) : Prop where
  rd : Rd base 28 w 6 q.A q.n q.c (opCells ops)
  fits : ∀ x ∈ ops, Fits x
theorem OpsIn.below {base : Nat} {w w' : World} {q : RSl} {ops : List OpR} (h : OpsIn base w q ops) (hb : Below w.heap.size w w') : OpsIn base w' q ops := ⟨h.rd.below hb, h.fits⟩
theorem OpsIn.grown {base g : Nat} {w w' : World} {q : RSl} {ops : List OpR} (h : OpsIn base w q ops) (hg : w.grownBy w' (some g)) (hT : IsT w g 71) (hb : base ≤ g) : OpsIn base w' q ops :=
  ⟨h.rd.grownR hg (fun j hj => by injection hj with hj; subst hj; exact ⟨hT, hb⟩) (by decide), h.fits⟩

def playP : List Rw → List (List OpR) → List Rw
  | l, [] => l
  | l, x :: xs => playP (doP l x).rows xs
theorem playP_snoc (l : List Rw) (xs : List (List OpR)) (x : List OpR) : playP l (xs ++ [x]) = (doP (playP l xs) x).rows := by
  induction xs generalizing l with
  | nil => rfl
  | cons y ys ih => exact ih _

set_option maxHeartbeats 4000000 in
set_option maxRecDepth 100000 in
theorem played_calls {base : Nat} {w : World} {Al : Option Addr} {nl cl : Nat} {ll : List RSl} {opss : List (List OpR)} (hl : Rd base 22 w 1 Al nl cl (ll.flatMap RSl.enc)) (ha : All2 (OpsIn base w) ll opss) (hbs : base ≤ w.heap.size) :
    Calls Try.prog 18 #[.slice Al nl cl] w fun e w' => ∃ g, e = .returned (.pointer (some ⟨g, 0, none⟩)) ∧ (∃ A c, Tab base w' g (playP [] (opss.take 40)) A c) ∧ w.heap.size ≤ g ∧ Below w.heap.size w w' := by
  have hn := hl.count (enc := RSl.enc) (fun _ => rfl) (by omega)
  have hno := ha.len
  have L := Asd.mk hl
  have AA := Asd.mk ha
  have N := Asd.mk hn
  have NO := Asd.mk hno
  clear hl ha hn hno
  go_enter Try.func18, Try.ntmps18
  go_wp2_with fail
  refine (New_calls base w hbs).mono ?_
  rintro e w1 ⟨g, rfl, hT1, hg1, hb1⟩
  have T1 := Asd.mk hT1
  have B1 := Asd.mk hb1
  clear hT1 hb1
  go_wp2_with fail
  go_loopw [4] (fun s4 wr => ∃ k : Nat, s4 = .int .i64 k ∧ k ≤ nl ∧ k ≤ 40 ∧ Asd (Below w.heap.size w wr) ∧ Asd (∃ A c, Tab base wr g (playP [] (opss.take k)) A c)) (fun s4 _ => nl - (intOf s4).toNat)
  case atStart => exact ⟨0, rfl, Nat.zero_le _, Nat.zero_le _, B1, ⟨_, _, T1.out⟩⟩
  case round =>
    obtain ⟨k, rfl, hkn, hk4, BW, TW⟩ := hrel
    have fin : ∀ (h : ¬ (k < nl ∧ k < 40)), opss.take k = opss.take 40 := by
      intro h
      rcases Nat.lt_or_ge k nl with h1 | h1
      · rw [show k = 40 by omega]
      · rw [List.take_of_length_le (by have := N.out; have := NO.out; omega), List.take_of_length_le (by have := N.out; have := NO.out; omega)]
    have FIN := Asd.mk fin
    clear fin
    by_cases hlt : k < nl
    · by_cases hlt4 : k < 40
      · obtain ⟨b, off, rfl, hb, hil, hcs⟩ := (L.out.below BW.out).at_enc (enc := RSl.enc) (fun _ => rfl) (by omega) hlt
        have hio : k < opss.length := by have := N.out; have := NO.out; omega
        have hq := (AA.out.at_ k hil hio).below BW.out
        obtain ⟨A, c, hT⟩ := TW.out
        have hsn : playP [] (opss.take (k + 1)) = (doP (playP [] (opss.take k)) opss[k]).rows := by rw [List.take_succ_eq_append_getElem hio, playP_snoc]
        generalize hy : ll[k] = q at hcs hq
        generalize hz : opss[k] = ops at hq hsn
        have c0 := hcs 0 _ rfl
        rw [Nat.add_zero, Nat.mul_one] at c0
        have hdo := Do_calls hT ops q.A q.n q.c hq.rd hq.fits
        have DO := Asd.mk hdo
        have SN := Asd.mk hsn
        have TK := Asd.mk hT
        clear hcs hq hdo hsn hT hy hz
        go_wp2_with fail
        refine DO.out.mono ?_
        rintro e w2 ⟨As, ns, cs, rr, rfl, hg2, hT2, _, _⟩
        have hgw : w.heap.size ≤ g := hg1
        have BW2 := Asd.mk (BW.out.grown hg2 BW.out.size (fun j hj => by injection hj with hj; omega))
        have T2 := Asd.mk hT2
        clear hg2 hT2
        go_wp2_with fail
        go_roundw
        case measure => simp [intOf]; omega
        case rel => exact ⟨k + 1, by go_num, by omega, by omega, BW2, ⟨by rw [SN.out]; exact T2.out⟩⟩
      · go_wp2_with fail
        go_ret
        exact ⟨g, rfl, by rw [← FIN.out (by omega)]; exact TW.out, hg1, BW.out⟩
    · go_wp2_with fail
      go_ret
      exact ⟨g, rfl, by rw [← FIN.out (by omega)]; exact TW.out, hg1, BW.out⟩
end Go.Proofs.Ytehfaeafefkngaa

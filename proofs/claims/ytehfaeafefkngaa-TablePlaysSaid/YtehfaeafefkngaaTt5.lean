/- Drop, the walk. -/
import Derived.Test.YtehfaeafefkngaaTt3
import Derived.Test.YtehfaeafefkngaaTt4
set_option linter.unusedVariables false
set_option linter.unusedSimpArgs false
namespace Go.Proofs.Ytehfaeafefkngaa
open Go.RowKit

set_option maxHeartbeats 4000000 in
theorem Drop_calls {base g c : Nat} {w : World} {l : List Rw} {A : Option Addr} (h : Tab base w g l A c) (s : SpanR) :
    Calls Try.prog 25 #[.pointer (some ⟨g, 0, none⟩), .agg s.enc.toArray] w fun e w' => e = .returned (.int .i64 (((endsP l s).2 - (endsP l s).1 : Nat) : Int)) ∧ w.grownBy w' (some g) ∧ ∃ A' c', Tab base w' g (dropP l s) A' c' ∧ Fr w A A' := by
  have hen := fun (W : World) (hb : Below w.heap.size w W) => ends_calls (h.below hb) s
  have hle := endsP_le l s
  have hsp := fun (W : World) (hb : Below w.heap.size w W) => splice_calls (m := []) (h.below hb) (endsP l s).1 (endsP l s).2 hle.1 hle.2 none 0 0 Rd.none_ (by omega)
  have hbig := h.big
  have hds := dropP_sorted h.srt s
  have hdl := dropP_len l s
  have EN := Asd.mk hen
  have SP := Asd.mk hsp
  have H := Asd.mk h
  have DS := Asd.mk hds
  have hdp : l.take (endsP l s).1 ++ [] ++ l.drop (endsP l s).2 = dropP l s := by simp [dropP]
  have DP := Asd.mk hdp
  unfold SpanR.enc at *
  obtain ⟨i1, i2⟩ := hle
  clear h hen hsp hds hdp
  generalize endsP l s = ee at *
  obtain ⟨lo, hi⟩ := ee
  simp only at *
  go_enter Try.func25, Try.ntmps25
  go_wp2_with fail
  refine (EN.out _ ((Below.refl _ _).alloc (Nat.le_refl _) _)).mono ?_
  rintro e w1 ⟨rfl, hb1⟩
  have B1 := Asd.mk (((Below.refl w.heap.size w).alloc (Nat.le_refl _) (.cells #[.string s.from_, .string s.to_] 46)).trans (hb1.mono (by simp)))
  clear hb1
  go_wp2_with fail
  refine (SP.out _ B1.out).mono ?_
  rintro e w2 ⟨rfl, hg2, A2, c2, hh2, hr2, hf2, ho2⟩
  rw [DP.out] at hh2 hr2
  have G2 := Asd.mk (gb_trans (gb_below B1.out _) hg2)
  have T2 := Asd.mk (⟨hh2, H.out.ge, hr2, DS.out, by omega, ho2⟩ : Tab base w2 g (dropP l s) A2 c2)
  have F2 := Asd.mk (hf2.mono (w := w) B1.out.size)
  clear hg2 hh2 hr2 hf2 ho2
  go_wp2_with fail
  go_ret
  have hsub : (hi : Int) - (lo : Int) = ((hi - lo : Nat) : Int) := by omega
  exact ⟨by rw [← hsub]; rfl, G2.out, A2, c2, T2.out, F2.out⟩
end Go.Proofs.Ytehfaeafefkngaa

/- The document's Of, Normal. -/
import Derived.Test.YtkjopeiohjkhoaaSr6
set_option linter.unusedVariables false
set_option linter.unusedSimpArgs false
namespace Go.Proofs.Ytkjopeiohjkhoaa
open Go.RowKit

set_option maxHeartbeats 4000000 in
theorem RefOf_calls {base : Nat} {w : World} {A B : Option Addr} {n c m d : Nat} {a b : List SpanR} (ha : Rd base 35 w 2 A n c (sCells a)) (hb : Rd base 35 w 2 B m d (sCells b)) (hbs : base ≤ w.heap.size) (how : Int) (hh : how = 0 ∨ how = 1 ∨ how = 2) :
    Calls Try.prog 18 #[.slice A n c, .slice B m d, .int .i64 how] w (SwPost (rfHow how) w a b) := by
  have hcn := ha.count (enc := SpanR.enc) (fun _ => rfl) (by omega)
  have hcm := hb.count (enc := SpanR.enc) (fun _ => rfl) (by omega)
  have RA := Asd.mk ha
  have RB := Asd.mk hb
  have BS := Asd.mk hbs
  have HH := Asd.mk hh
  have NA := Asd.mk hcn
  have NB := Asd.mk hcm
  clear ha hb hbs hh hcn hcm
  by_cases h1 : swrong a = 0
  · by_cases h2 : swrong b = 0
    · have h0 : swrong2 a b = 0 := by unfold swrong2; rw [if_pos h1]; exact h2
      have LA := Asd.mk (swrong_ok h1).1
      have LB := Asd.mk (swrong_ok h2).1
      have W1 := Asd.mk (RefWrong_calls RA.out)
      rw [h1] at W1
      have W2 : Asd (∀ W : World, Below w.heap.size w W → Calls Try.prog 30 #[.slice B m d] W fun e w' => e = .returned (.int .i64 0) ∧ Below W.heap.size W w') := ⟨fun W hW => h2 ▸ RefWrong_calls (RB.out.below hW)⟩
      have H0 := Asd.mk h0
      clear h1 h2 h0
      go_enter Try.func18, Try.ntmps18
      go_wp2_with fail
      refine W1.out.mono ?_
      rintro e w1 ⟨rfl, hb1⟩
      have B1 := Asd.mk hb1
      clear hb1
      go_wp2_with fail
      refine (W2.out _ B1.out).mono ?_
      rintro e w2 ⟨rfl, hb2⟩
      have B2 := Asd.mk (B1.out.trans (hb2.mono B1.out.size))
      clear hb2
      go_wp2_with fail
      refine (made_calls (RA.out.below B2.out) (RB.out.below B2.out) (by have := NA.out; have := LA.out; omega) (by have := NB.out; have := LB.out; omega) (Nat.le_trans BS.out B2.out.size) how HH.out).mono ?_
      rintro e w3 ⟨P, np, cp, out, rfl, hb3, hO, hM⟩
      have B3 := Asd.mk (B2.out.trans (hb3.mono B2.out.size))
      have O3 := Asd.mk (own_le hO B2.out.size)
      have M3 := Asd.mk hM
      have hnp := own_slen hO
      have hlen := hM.len
      have hla := LA.out
      have hlb := LB.out
      have hnp2 : np ≤ 16384 := by omega
      have NP := Asd.mk hnp
      clear hb3 hO hM hnp hlen hla hlb
      by_cases hbig : (4096 : Int) < (np : Int)
      · go_wp2_with fail
        go_ret2
        exact ⟨none, 0, 0, [], 2, rfl, B3.out, World.ownsRow_nil _ _ _ _, .inr ⟨H0.out, out, M3.out, .inr ⟨by have := NP.out; omega, rfl, rfl⟩⟩⟩
      · go_wp2_with fail
        go_ret2
        exact ⟨P, np, cp, out, 0, rfl, B3.out, O3.out, .inr ⟨H0.out, out, M3.out, .inl ⟨by have := NP.out; omega, rfl, rfl⟩⟩⟩
    · have h0 : swrong2 a b = swrong b := by unfold swrong2; rw [if_pos h1]
      have W1 := Asd.mk (RefWrong_calls RA.out)
      rw [h1] at W1
      have W2 : Asd (∀ W : World, Below w.heap.size w W → Calls Try.prog 30 #[.slice B m d] W fun e w' => e = .returned (.int .i64 (swrong b)) ∧ Below W.heap.size W w') := ⟨fun W hW => RefWrong_calls (RB.out.below hW)⟩
      have H0 := Asd.mk h0
      have H2 := Asd.mk h2
      have hv1 : (swrong b == 0) = false := by simpa using h2
      have hv2 : (swrong b != 0) = true := by simpa using h2
      clear h1 h2 h0
      generalize swrong b = v at *
      go_enter Try.func18, Try.ntmps18
      go_wp2_with fail
      refine W1.out.mono ?_
      rintro e w1 ⟨rfl, hb1⟩
      have B1 := Asd.mk hb1
      clear hb1
      go_wp2_with fail
      refine (W2.out _ B1.out).mono ?_
      rintro e w2 ⟨rfl, hb2⟩
      have B2 := Asd.mk (B1.out.trans (hb2.mono B1.out.size))
      clear hb2
      go_wp2_with fail
      go_ret2
      exact ⟨none, 0, 0, [], v, rfl, B2.out, World.ownsRow_nil _ _ _ _, .inl ⟨by rw [H0.out]; exact H2.out, H0.out.symm, rfl⟩⟩
  · have h0 : swrong2 a b = swrong a := by unfold swrong2; rw [if_neg h1]
    have W1 := Asd.mk (RefWrong_calls RA.out)
    have H0 := Asd.mk h0
    have H1 := Asd.mk h1
    have hv1 : (swrong a == 0) = false := by simpa using h1
    have hv2 : (swrong a != 0) = true := by simpa using h1
    clear h1 h0
    generalize swrong a = v at *
    go_enter Try.func18, Try.ntmps18
    go_wp2_with fail
    refine W1.out.mono ?_
    rintro e w1 ⟨rfl, hb1⟩
    have B1 := Asd.mk hb1
    clear hb1
    go_wp2_with fail
    go_ret2
    exact ⟨none, 0, 0, [], v, rfl, B1.out, World.ownsRow_nil _ _ _ _, .inl ⟨by rw [H0.out]; exact H1.out, H0.out.symm, rfl⟩⟩
theorem RefNormal_calls {base : Nat} {w : World} {A : Option Addr} {n c : Nat} {a : List SpanR} (ha : Rd base 35 w 2 A n c (sCells a)) (hbs : base ≤ w.heap.size) :
    Calls Try.prog 13 #[.slice A n c] w (SwPost orB w a []) := by
  have H := Asd.mk (RefOf_calls ha (Rd.none_ (base := base)) hbs (B := none) (m := 0) (d := 0) (b := []) 0 (.inl rfl))
  clear ha hbs
  go_enter Try.func13, Try.ntmps13
  go_wp2_with fail
  refine H.out.mono ?_
  rintro e w1 ⟨P, np, cp, l, err, rfl, hb1, hO, hr⟩
  have B1 := Asd.mk hb1
  have O1 := Asd.mk hO
  have R1 := Asd.mk hr
  clear hb1 hO hr
  go_wp2_with fail
  go_ret2
  exact ⟨P, np, cp, l, err, rfl, B1.out, O1.out, R1.out⟩
/-- Two that tell the same sum tell the same. -/
theorem SwPost.same {rf : Bool → Bool → Bool} {a b l l' : List SpanR} {err err' : Int}
    (h : (swrong2 a b ≠ 0 ∧ err = swrong2 a b ∧ l = []) ∨ (swrong2 a b = 0 ∧ ∃ out, Made rf a b out ∧ ((out.length ≤ 4096 ∧ err = 0 ∧ l = out) ∨ (4096 < out.length ∧ err = 2 ∧ l = []))))
    (h' : (swrong2 a b ≠ 0 ∧ err' = swrong2 a b ∧ l' = []) ∨ (swrong2 a b = 0 ∧ ∃ out, Made rf a b out ∧ ((out.length ≤ 4096 ∧ err' = 0 ∧ l' = out) ∨ (4096 < out.length ∧ err' = 2 ∧ l' = [])))) : l = l' ∧ err = err' ∧ l.length ≤ 4096 := by
  rcases h with ⟨h1, h2, h3⟩ | ⟨h1, o, hm, h2⟩
  · rcases h' with ⟨_, k2, k3⟩ | ⟨k1, _⟩
    · exact ⟨by rw [h3, k3], by rw [h2, k2], by rw [h3]; exact Nat.zero_le _⟩
    · exact absurd k1 h1
  · rcases h' with ⟨k1, _⟩ | ⟨_, o', km, k2⟩
    · exact absurd h1 k1
    · obtain rfl := hm.uniq km
      rcases h2 with ⟨h2, h3, h4⟩ | ⟨h2, h3, h4⟩
      · rcases k2 with ⟨_, k3, k4⟩ | ⟨k2, _⟩
        · exact ⟨by rw [h4, k4], by rw [h3, k3], by rw [h4]; exact h2⟩
        · omega
      · rcases k2 with ⟨k2, _⟩ | ⟨_, k3, k4⟩
        · omega
        · exact ⟨by rw [h4, k4], by rw [h3, k3], by rw [h4]; exact Nat.zero_le _⟩
end Go.Proofs.Ytkjopeiohjkhoaa

/- CheckFinds: the walk. -/
import Derived.Test.YtlhjfblpinpjiaaFa
set_option linter.unusedVariables false
set_option linter.unusedSimpArgs false
namespace Go.Proofs.Ytlhjfblpinpjiaa
open Go.RowKit

theorem elt_call : Elt Try.prog 22 44 10 112 := Elt.mk' Try.underlying22 (z := .agg #[.int .i64 0, .int .i64 0, .int .i64 0, .int .i64 0, .slice none 0 0, .int .i64 0, .int .i64 0, .slice none 0 0, .int .i64 0, .int .i64 0]) (by kernel_rfl) rfl (by omega)
theorem calls_one (hs : List CallR) : ∀ u ∈ hs.flatMap CallR.enc, u.oneCell' = true := by
  intro u hu
  obtain ⟨r, _, hr⟩ := List.mem_flatMap.1 hu
  simp only [CallR.enc, List.mem_cons, List.not_mem_nil, or_false] at hr
  rcases hr with rfl | rfl | rfl | rfl | rfl | rfl | rfl | rfl | rfl | rfl <;> rfl

set_option maxHeartbeats 16000000 in
set_option maxRecDepth 100000 in
theorem Finds_walk {w : World} {A : Option Addr} {n c : Nat} {hs : List CallR} (hh : Hist w.heap.size w A n c hs) (hsz : n * 112 ≤ 140737488351232) :
    Calls Try.prog 3 #[.slice A n c] w fun e w' => e = .returned (.bool true) ∧ Below w.heap.size w w' := by
  have WC := Asd.mk (fun W => works_calls W)
  have H := Asd.mk (fun W (h : Below w.heap.size w W) => hh.below h)
  have SZ := Asd.mk hsz
  have hbig := hh.big
  clear hh hsz
  by_cases h1 : 5 < n ∧ n ≤ 7
  · obtain ⟨h1, h2⟩ := h1
    have h1' : (5 : Int) < (n : Int) := by omega
    have h2' : (n : Int) ≤ (7 : Int) := by omega
    go_enter Try.func3, Try.ntmps3
    go_wp2_with fail
    refine (WC.out _).mono ?_
    rintro e w1 ⟨rfl, hb1⟩
    go_wp2_with fail
    go_ret
    exact ⟨rfl, hb1⟩
  · have h3 : (n ≤ 5) ∨ (5 < n ∧ 7 < n) := by omega
    clear h1
    have go : ∀ (sp : List Int × Bool × Int) (hsp : searchP hs = sp), Asd (∀ W, Below w.heap.size w W → ∀ B m d, Hist w.heap.size W B m d hs → Calls Try.prog 9 #[.slice B m d] W fun e w' => Below W.heap.size W w' ∧ ∃ B k cb, e = .returned (.tuple #[.slice B k cb, .bool sp.2.1, .int .i64 sp.2.2]) ∧ Ints w.heap.size w' B k cb sp.1) := fun sp hsp =>
      ⟨fun W hW B m d h => by
        have := Search_calls h hW.size
        unfold SearchPost at this
        rw [hsp] at this
        exact this⟩
    have go2 : ∀ (sp : List Int × Bool × Int) (hsp : searchP hs = sp), Asd (∀ W, Below w.heap.size w W → ∀ B m d, Hist w.heap.size W B m d hs → Calls Try.prog 10 #[.slice B m d] W fun e w' => Below W.heap.size W w' ∧ ∃ B k cb, e = .returned (.tuple #[.slice B k cb, .bool sp.2.1, .int .i64 sp.2.2]) ∧ Ints w.heap.size w' B k cb sp.1) := fun sp hsp =>
      ⟨fun W hW B m d h => by
        have := RSearch_calls h hW.size
        unfold SearchPost at this
        rw [hsp] at this
        exact this⟩
    obtain ⟨sp, hsp⟩ : ∃ sp, searchP hs = sp := ⟨_, rfl⟩
    have SC := go sp hsp
    have RC := go2 sp hsp
    obtain ⟨os, ok, er⟩ := sp
    simp only at SC RC
    clear go go2 hsp
    have hor : ((n : Int) ≤ 5) ∨ ((5 : Int) < (n : Int) ∧ (7 : Int) < (n : Int)) := by omega
    clear h3
    have OR : Asd (((n : Int) ≤ 5) ∨ ((5 : Int) < (n : Int) ∧ (7 : Int) < (n : Int))) := ⟨hor⟩
    clear hor
    rcases OR.out with h5 | ⟨h5, h7⟩
    all_goals
      go_enter Try.func3, Try.ntmps3
      go_wp2_with (at_builtin; refine wpList_append_mine (base := w.heap.size) (own := w.heap.size) (v := .slice (some ⟨w.heap.size, 0, none⟩) 0 0) (n := 0) (xs := []) rfl (.tmp 19) (.tmp 20) 22 rfl elt_call rfl rfl (World.ownsRow_made w #[] 0 (Nat.le_refl _) (by simp [maxLen]) (by simp)) ((H.out w (Below.refl _ _)).rd.alloc _) (calls_one hs) (by have := SZ.out; simp only [maxLen]; omega) (by have := SZ.out; omega) (by simp) ?_; intro v' w1 hO1 hG1; rw [Nat.zero_add] at hO1; rw [List.nil_append] at hO1; obtain ⟨A1, c1, rfl, hR1⟩ := Rd.of_own (base := w.heap.size) hO1)
      have B1 : Asd (Below w.heap.size w w1) := ⟨((Below.refl w.heap.size w).alloc (Nat.le_refl _) _).grown hG1 (by simp) (fun j hj => by simp [Value.ownBlock] at hj; omega)⟩
      have H1 : Asd (Hist w.heap.size w1 A1 n c1 hs) := ⟨⟨hR1, fun x hx => (H.out w1 B1.out).ins x hx, hbig⟩⟩
      clear hO1 hG1 hR1
      refine (SC.out w1 B1.out _ _ _ H1.out).mono ?_
      rintro e w2 ⟨hb2, B2, k2, cb2, rfl, hi2⟩
      have BB2 := Asd.mk (B1.out.trans (hb2.mono B1.out.size))
      have I2 := Asd.mk hi2
      clear hb2 hi2 B1 H1
      go_wp2_with fail
      refine (RC.out w2 BB2.out _ _ _ (H.out w2 BB2.out)).mono ?_
      rintro e w3 ⟨hb3, B3, k3, cb3, rfl, hi3⟩
      have I3 := Asd.mk (I2.out.below hb3)
      have J3 := Asd.mk hi3
      have BB3 := Asd.mk (BB2.out.trans (hb3.mono BB2.out.size))
      clear hb3 hi3 I2
      have si := SameInts_calls (base := w.heap.size) I3.out.rd J3.out.rd I3.out.big
      rw [decide_eq_true rfl] at si
      go_wp2_with fail
      refine si.mono ?_
      clear si
      rintro e w4 ⟨rfl, q4, rfl⟩
      have BB4 : Asd (Below w.heap.size w (w3.drewN q4)) := ⟨BB3.out.trans ⟨rfl, rfl, rfl, Nat.le_refl _, fun _ _ => rfl⟩⟩
      generalize w3.drewN q4 = w5 at BB4 ⊢
      go_wp2_with fail
      refine (WC.out _).mono ?_
      rintro e w6 ⟨rfl, hb6⟩
      have BB6 := Asd.mk (BB4.out.trans (hb6.mono BB4.out.size))
      go_wp2_with fail
      go_ret
      exact ⟨rfl, BB6.out⟩

end Go.Proofs.Ytlhjfblpinpjiaa

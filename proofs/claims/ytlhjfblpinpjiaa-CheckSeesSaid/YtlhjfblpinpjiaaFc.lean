/- CheckFinds: the walk. CheckJudges: the walk. -/
import Derived.Test.YtlhjfblpinpjiaaFa
import Derived.Deep.Cut
set_option linter.unusedVariables false
set_option linter.unusedSimpArgs false
namespace Go.Proofs.Ytlhjfblpinpjiaa
open Go.RowKit

theorem elt_call : Elt Try.prog 22 44 10 112 := Elt.mk' Try.underlying22 (z := .agg #[.int .i64 0, .int .i64 0, .int .i64 0, .int .i64 0, .slice none 0 0, .int .i64 0, .int .i64 0, .slice none 0 0, .int .i64 0, .int .i64 0]) (by kernel_rfl) rfl (by omega)
theorem calls_one (hs : List CallR) : ∀ u ∈ hs.flatMap CallR.enc, u.oneCell' = true := by
  intro u hu
  obtain ⟨r, _, hr⟩ := List.mem_flatMap.1 hu
  simp only [CallR.enc, List.mem_cons, List.not_mem_nil, or_false] at hr
  rcases hr with rfl | rfl | rfl | rfl | rfl | rfl | rfl | rfl | rfl | rfl <;> rfl

set_option maxHeartbeats 16000000 in
set_option maxRecDepth 100000 in
theorem Finds_walk {w : World} {A : Option Addr} {n c : Nat} {hs : List CallR} (hh : Hist w.heap.size w A n c hs) (hsz : n * 112 ≤ 140737488351232) :
    Calls Try.prog 3 #[.slice A n c] w fun e w' => e = .returned (.bool true) ∧ Below w.heap.size w w' := by
  have WC := Asd.mk (fun W => works_calls W)
  have H := Asd.mk (fun W (h : Below w.heap.size w W) => hh.below h)
  have SZ := Asd.mk hsz
  have hbig := hh.big
  clear hh hsz
  by_cases h1 : 5 < n ∧ n ≤ 7
  · obtain ⟨h1, h2⟩ := h1
    have h1' : (5 : Int) < (n : Int) := by omega
    have h2' : (n : Int) ≤ (7 : Int) := by omega
    go_enter Try.func3, Try.ntmps3
    go_wp2_with fail
    refine (WC.out _).mono ?_
    rintro e w1 ⟨rfl, hb1⟩
    go_wp2_with fail
    go_ret
    exact ⟨rfl, hb1⟩
  · have h3 : (n ≤ 5) ∨ (5 < n ∧ 7 < n) := by omega
    clear h1
    have go : ∀ (sp : List Int × Bool × Int) (hsp : searchP hs = sp), Asd (∀ W, Below w.heap.size w W → ∀ B m d, Hist w.heap.size W B m d hs → Calls Try.prog 9 #[.slice B m d] W fun e w' => Below W.heap.size W w' ∧ ∃ B k cb, e = .returned (.tuple #[.slice B k cb, .bool sp.2.1, .int .i64 sp.2.2]) ∧ Ints w.heap.size w' B k cb sp.1) := fun sp hsp =>
      ⟨fun W hW B m d h => by
        have := Search_calls h hW.size
        unfold SearchPost at this
        rw [hsp] at this
        exact this⟩
    have go2 : ∀ (sp : List Int × Bool × Int) (hsp : searchP hs = sp), Asd (∀ W, Below w.heap.size w W → ∀ B m d, Hist w.heap.size W B m d hs → Calls Try.prog 10 #[.slice B m d] W fun e w' => Below W.heap.size W w' ∧ ∃ B k cb, e = .returned (.tuple #[.slice B k cb, .bool sp.2.1, .int .i64 sp.2.2]) ∧ Ints w.heap.size w' B k cb sp.1) := fun sp hsp =>
      ⟨fun W hW B m d h => by
        have := RSearch_calls h hW.size
        unfold SearchPost at this
        rw [hsp] at this
        exact this⟩
    obtain ⟨sp, hsp⟩ : ∃ sp, searchP hs = sp := ⟨_, rfl⟩
    have SC := go sp hsp
    have RC := go2 sp hsp
    obtain ⟨os, ok, er⟩ := sp
    simp only at SC RC
    clear go go2 hsp
    have hor : ((n : Int) ≤ 5) ∨ ((5 : Int) < (n : Int) ∧ (7 : Int) < (n : Int)) := by omega
    clear h3
    have OR : Asd (((n : Int) ≤ 5) ∨ ((5 : Int) < (n : Int) ∧ (7 : Int) < (n : Int))) := ⟨hor⟩
    clear hor
    rcases OR.out with h5 | ⟨h5, h7⟩
    all_goals
      go_enter Try.func3, Try.ntmps3
      go_wp2_with (at_builtin; refine wpList_append_mine (base := w.heap.size) (own := w.heap.size) (v := .slice (some ⟨w.heap.size, 0, none⟩) 0 0) (n := 0) (xs := []) rfl (.tmp 19) (.tmp 20) 22 rfl elt_call rfl rfl (World.ownsRow_made w #[] 0 (Nat.le_refl _) (by simp [maxLen]) (by simp)) ((H.out w (Below.refl _ _)).rd.alloc _) (calls_one hs) (by have := SZ.out; simp only [maxLen]; omega) (by have := SZ.out; omega) (by simp) ?_; intro v' w1 hO1 hG1; rw [Nat.zero_add] at hO1; rw [List.nil_append] at hO1; obtain ⟨A1, c1, rfl, hR1⟩ := Rd.of_own (base := w.heap.size) hO1)
      have B1 : Asd (Below w.heap.size w w1) := ⟨((Below.refl w.heap.size w).alloc (Nat.le_refl _) _).grown hG1 (by simp) (fun j hj => by simp [Value.ownBlock] at hj; omega)⟩
      have H1 : Asd (Hist w.heap.size w1 A1 n c1 hs) := ⟨⟨hR1, fun x hx => (H.out w1 B1.out).ins x hx, hbig⟩⟩
      clear hO1 hG1 hR1
      refine (SC.out w1 B1.out _ _ _ H1.out).mono ?_
      rintro e w2 ⟨hb2, B2, k2, cb2, rfl, hi2⟩
      have BB2 := Asd.mk (B1.out.trans (hb2.mono B1.out.size))
      have I2 := Asd.mk hi2
      clear hb2 hi2 B1 H1
      go_wp2_with fail
      refine (RC.out w2 BB2.out _ _ _ (H.out w2 BB2.out)).mono ?_
      rintro e w3 ⟨hb3, B3, k3, cb3, rfl, hi3⟩
      have I3 := Asd.mk (I2.out.below hb3)
      have J3 := Asd.mk hi3
      have BB3 := Asd.mk (BB2.out.trans (hb3.mono BB2.out.size))
      clear hb3 hi3 I2
      have si := SameInts_calls (base := w.heap.size) I3.out.rd J3.out.rd I3.out.big
      rw [decide_eq_true rfl] at si
      go_wp2_with fail
      refine si.mono ?_
      clear si
      rintro e w4 ⟨rfl, q4, rfl⟩
      have BB4 : Asd (Below w.heap.size w (w3.drewN q4)) := ⟨BB3.out.trans ⟨rfl, rfl, rfl, Nat.le_refl _, fun _ _ => rfl⟩⟩
      generalize w3.drewN q4 = w5 at BB4 ⊢
      go_wp2_with fail
      refine (WC.out _).mono ?_
      rintro e w6 ⟨rfl, hb6⟩
      have BB6 := Asd.mk (BB4.out.trans (hb6.mono BB4.out.size))
      go_wp2_with fail
      go_ret
      exact ⟨rfl, BB6.out⟩


theorem doP_len {l : List Rw} (h : Sorted l) (hl : l.length ≤ 4096) (ops : List OpR) : (doP l ops).rows.length ≤ 4096 := by
  unfold doP
  split
  · exact hl
  · split
    · exact hl
    · split
      · exact hl
      · exact stP_len h hl ops
theorem playP_len {l : List Rw} (h : Sorted l) (hl : l.length ≤ 4096) (xs : List (List OpR)) : (playP l xs).length ≤ 4096 := by
  induction xs generalizing l with
  | nil => exact hl
  | cons x xs ih => exact ih (doP_sorted h x) (doP_len h hl x)
theorem leftP_len (hs : List CallR) (os : List Int) : (leftP hs os).length ≤ 4096 := leftP_big hs os (playP_len List.Pairwise.nil (by simp) _)

set_option maxHeartbeats 16000000 in
set_option maxRecDepth 100000 in
theorem Judges_walk {w : World} {A B : Option Addr} {n c m d : Nat} {hs : List CallR} {os : List Int} (hh : Hist w.heap.size w A n c hs) (ho : Ints w.heap.size w B m d os) (hsz : n * 112 ≤ 140737488351232) (hsi : m * 8 ≤ 140737488351232) :
    Calls Try.prog 6 #[.slice A n c, .slice B m d] w fun e w' => e = .returned (.bool true) ∧ Below w.heap.size w w' := by
  have WC := Asd.mk (fun W => works_calls W)
  have H := Asd.mk (fun W (h : Below w.heap.size w W) => hh.below h)
  have O := Asd.mk (fun W (h : Below w.heap.size w W) => ho.below h)
  have LB := Asd.mk (leftP_len hs os)
  have SZ := Asd.mk hsz
  have SI := Asd.mk hsi
  have hbig := hh.big
  have JC : Asd (∀ W, Below w.heap.size w W → ∀ B1 m1 d1 B2 m2 d2, Hist w.heap.size W B1 m1 d1 hs → Ints w.heap.size W B2 m2 d2 os → Calls Try.prog 15 #[.slice B1 m1 d1, .slice B2 m2 d2] W fun e w' => e = .returned (.agg #[.int .i64 (judgeP hs os).1, .int .i64 (judgeP hs os).2]) ∧ Below W.heap.size W w') :=
    ⟨fun W hW _ _ _ _ _ _ h1 h2 => Judge_calls h1 h2 hW.size⟩
  have RJ : Asd (∀ W, Below w.heap.size w W → ∀ B1 m1 d1 B2 m2 d2, Hist w.heap.size W B1 m1 d1 hs → Ints w.heap.size W B2 m2 d2 os → Calls Try.prog 17 #[.slice B1 m1 d1, .slice B2 m2 d2] W fun e w' => e = .returned (.agg #[.int .i64 (judgeP hs os).1, .int .i64 (judgeP hs os).2]) ∧ Below W.heap.size W w') :=
    ⟨fun W hW _ _ _ _ _ _ h1 h2 => RJudge_calls h1 h2 hW.size⟩
  have CR : Asd (∀ W, Below w.heap.size w W → ∀ B1 m1 d1 B2 m2 d2, Hist w.heap.size W B1 m1 d1 hs → Ints w.heap.size W B2 m2 d2 os → Calls Try.prog 18 #[.slice B1 m1 d1, .slice B2 m2 d2] W (RowsPost w.heap.size W hs os)) :=
    ⟨fun W hW _ _ _ _ _ _ h1 h2 => CRows_calls h1 h2 hW.size⟩
  have RR : Asd (∀ W, Below w.heap.size w W → ∀ B1 m1 d1 B2 m2 d2, Hist w.heap.size W B1 m1 d1 hs → Ints w.heap.size W B2 m2 d2 os → Calls Try.prog 19 #[.slice B1 m1 d1, .slice B2 m2 d2] W (RowsPost w.heap.size W hs os)) :=
    ⟨fun W hW _ _ _ _ _ _ h1 h2 => RRows_calls h1 h2 hW.size⟩
  unfold RowsPost at CR RR
  clear hh ho hsz hsi
  generalize leftP hs os = rows at *
  generalize judgeP hs os = f at *
  obtain ⟨fa, fc⟩ := f
  simp only at JC RJ CR RR
  go_enter Try.func6, Try.ntmps6
  go_wp2_with (at_builtin; refine wpList_append_mine (base := w.heap.size) (own := w.heap.size) (v := .slice (some ⟨w.heap.size, 0, none⟩) 0 0) (n := 0) (xs := []) rfl (.tmp 13) (.tmp 14) 22 rfl elt_call rfl rfl (World.ownsRow_made w #[] 0 (Nat.le_refl _) (by simp [maxLen]) (by simp)) ((H.out w (Below.refl _ _)).rd.alloc _) (calls_one hs) (by have := SZ.out; simp only [maxLen]; omega) (by have := SZ.out; omega) (by simp) ?_; intro v' w1 hO1 hG1; rw [Nat.zero_add] at hO1; rw [List.nil_append] at hO1; obtain ⟨A1, c1, rfl, hR1⟩ := Rd.of_own (base := w.heap.size) hO1)
  have B1 : Asd (Below w.heap.size w w1) := ⟨((Below.refl w.heap.size w).alloc (Nat.le_refl _) _).grown hG1 (by simp) (fun j hj => by simp [Value.ownBlock] at hj; omega)⟩
  have H1 : Asd (Hist w.heap.size w1 A1 n c1 hs) := ⟨⟨hR1, fun x hx => (H.out w1 B1.out).ins x hx, hbig⟩⟩
  clear hO1 hG1 hR1
  refine (LendInts_calls (O.out w1 B1.out).rd SI.out B1.out.size).mono ?_
  rintro e w2 ⟨P, cp, rfl, hb2, hP⟩
  have H2 := Asd.mk (fun W (h : Below w2.heap.size w2 W) => (H1.out.below hb2).below h)
  have P2 := Asd.mk (fun W (h : Below w2.heap.size w2 W) => hP.below h)
  have M2 : Asd (∀ W (h : Below w2.heap.size w2 W), Ints w.heap.size W P m cp os) := ⟨fun W h => ⟨(lent_ints (P2.out W h)).2, by have := SI.out; omega⟩⟩
  have B2 := Asd.mk (fun W (h : Below w2.heap.size w2 W) => B1.out.trans ((hb2.trans (h.mono hb2.size)).mono B1.out.size))
  clear hb2 hP B1 H1
  go_wp2_with fail
  refine (JC.out w2 (B2.out _ (Below.refl _ _)) _ _ _ _ _ _ (H2.out _ (Below.refl _ _)) (M2.out _ (Below.refl _ _))).mono ?_
  rintro e w3 ⟨rfl, hb3⟩
  have B3 := Asd.mk hb3
  clear hb3
  go_wp2_with fail
  refine (RJ.out w3 (B2.out _ B3.out) _ _ _ _ _ _ (H.out _ (B2.out _ B3.out)) (O.out _ (B2.out _ B3.out))).mono ?_
  rintro e w4 ⟨rfl, hb4⟩
  have B4 := Asd.mk (B3.out.trans (hb4.mono B3.out.size))
  clear hb4 B3
  go_upto_region 3 with fail
  have X1 := heap_alloc_new w4 (.cells #[.int .i64 fa, .int .i64 fc] 35)
  have X2 := heap_alloc_new (w4.alloc (.cells #[.int .i64 fa, .int .i64 fc] 35)) (.cells #[.int .i64 fa, .int .i64 fc] 35)
  have hA1 : Below w4.heap.size w4 (w4.alloc (.cells #[.int .i64 fa, .int .i64 fc] 35)) := (Below.refl _ _).alloc (Nat.le_refl _) _
  have hA2 : Below (w4.alloc (.cells #[.int .i64 fa, .int .i64 fc] 35)).heap.size (w4.alloc (.cells #[.int .i64 fa, .int .i64 fc] 35)) ((w4.alloc (.cells #[.int .i64 fa, .int .i64 fc] 35)).alloc (.cells #[.int .i64 fa, .int .i64 fc] 35)) := (Below.refl _ _).alloc (Nat.le_refl _) _
  have X3 := (hA2.block w4.heap.size (by simp)).trans X1
  rw [World.size_alloc] at X2
  have B5 := Asd.mk (B4.out.trans ((hA1.trans (hA2.mono (by simp))).mono B4.out.size))
  generalize ((w4.alloc (.cells #[.int .i64 fa, .int .i64 fc] 35)).alloc (.cells #[.int .i64 fa, .int .i64 fc] 35)) = w5 at X2 X3 B5 ⊢
  have E1 := Asd.mk X3
  have E2 := Asd.mk X2
  clear X1 X2 X3 hA1 hA2 B4
  go_wp2_with fail
  refine (CR.out w5 (B2.out _ B5.out) _ _ _ _ _ _ (H2.out _ B5.out) (M2.out _ B5.out)).mono ?_
  rintro e w6 ⟨hb6, A6, c6, rfl, hr6⟩
  have hA : Below w6.heap.size w6 (w6.alloc (.cells #[.int .i64 fa, .int .i64 fc] 35)) := (Below.refl _ _).alloc (Nat.le_refl _) _
  have hb7 := hb6.trans (hA.mono hb6.size)
  have B7 := Asd.mk (B5.out.trans (hb7.mono B5.out.size))
  have E3 := Asd.mk ((hb7.block _ (Array.getElem?_eq_some_iff.1 E1.out).1).trans E1.out)
  have E4 := Asd.mk ((hb7.block _ (Array.getElem?_eq_some_iff.1 E2.out).1).trans E2.out)
  have E5 := Asd.mk (heap_alloc_new w6 (.cells #[.int .i64 fa, .int .i64 fc] 35))
  have R6 := Asd.mk (hr6.below hA)
  clear hb6 hr6 hA hb7 E1 E2 B5
  go_upto_region 4 with fail
  generalize (w6.alloc (.cells #[.int .i64 fa, .int .i64 fc] 35)) = w7 at B7 E3 E4 E5 R6 ⊢
  go_wp2_with fail
  refine (RR.out w7 (B2.out _ B7.out) _ _ _ _ _ _ (H.out _ (B2.out _ B7.out)) (O.out _ (B2.out _ B7.out))).mono ?_
  rintro e w8 ⟨hb8, A8, c8, rfl, hr8⟩
  have hA : Below w8.heap.size w8 (w8.alloc (.cells #[.int .i64 fa, .int .i64 fc] 35)) := (Below.refl _ _).alloc (Nat.le_refl _) _
  have hb9 := hb8.trans (hA.mono hb8.size)
  have B9 := Asd.mk (B7.out.trans (hb9.mono B7.out.size))
  have F1 := Asd.mk ((hb9.block _ (Array.getElem?_eq_some_iff.1 E3.out).1).trans E3.out)
  have F2 := Asd.mk ((hb9.block _ (Array.getElem?_eq_some_iff.1 E4.out).1).trans E4.out)
  have F3 := Asd.mk ((hb9.block _ (Array.getElem?_eq_some_iff.1 E5.out).1).trans E5.out)
  have F4 := Asd.mk (heap_alloc_new w8 (.cells #[.int .i64 fa, .int .i64 fc] 35))
  have R9 := Asd.mk (R6.out.below hb9)
  have S9 := Asd.mk (hr8.below hA)
  clear hb8 hr8 hA hb9 E3 E4 E5 B7 R6
  go_upto_region 5 with fail
  generalize (w8.alloc (.cells #[.int .i64 fa, .int .i64 fc] 35)) = w9 at B9 F1 F2 F3 F4 R9 S9 ⊢
  obtain ⟨x0, x1, x2⟩ := fault_cells F1.out
  obtain ⟨y0, y1, y2⟩ := fault_cells F2.out
  go_wp2_with fail
  have si := SameRows_quiet (base := w.heap.size) R9.out S9.out (by have := LB.out; omega)
  rw [decide_eq_true rfl] at si
  refine si.mono ?_
  clear si
  rintro e w10 ⟨rfl, q10, rfl⟩
  have hd : Below w9.heap.size w9 (w9.drewN q10) := ⟨rfl, rfl, rfl, Nat.le_refl _, fun _ _ => rfl⟩
  have B11 := Asd.mk (B9.out.trans (hd.mono B9.out.size))
  have G3 := Asd.mk ((hd.block _ (Array.getElem?_eq_some_iff.1 F3.out).1).trans F3.out)
  have G4 := Asd.mk ((hd.block _ (Array.getElem?_eq_some_iff.1 F4.out).1).trans F4.out)
  clear hd x0 x1 x2 y0 y1 y2 F1 F2 F3 F4 R9 S9
  generalize w9.drewN q10 = w11 at B11 G3 G4 ⊢
  obtain ⟨x0, x1, x2⟩ := fault_cells G3.out
  obtain ⟨y0, y1, y2⟩ := fault_cells G4.out
  go_wp2_with fail
  refine (KeptInts_calls (base := w.heap.size) (P2.out _ B11.out) (O.out _ (B2.out _ B11.out)).rd SI.out).mono ?_
  rintro e w12 ⟨rfl, q12, rfl⟩
  have B13 : Asd (Below w.heap.size w (w11.drewN q12)) := ⟨(B2.out _ B11.out).trans ⟨rfl, rfl, rfl, Nat.le_refl _, fun _ _ => rfl⟩⟩
  clear x0 x1 x2 y0 y1 y2 G3 G4
  generalize w11.drewN q12 = w13 at B13 ⊢
  go_wp2_with fail
  refine (WC.out _).mono ?_
  rintro e w14 ⟨rfl, hb14⟩
  have B14 := Asd.mk (B13.out.trans (hb14.mono B13.out.size))
  go_wp2_with fail
  go_ret
  exact ⟨rfl, B14.out⟩

end Go.Proofs.Ytlhjfblpinpjiaa

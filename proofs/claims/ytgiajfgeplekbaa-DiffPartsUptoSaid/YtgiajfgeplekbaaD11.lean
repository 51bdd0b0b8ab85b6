/- The chapter's examples hold. -/
import Derived.Test.YtgiajfgeplekbaaD10
set_option linter.unusedVariables false
set_option linter.unusedSimpArgs false
namespace Go.Proofs.Ytgiajfgeplekbaa
open Go.RowKit

theorem mkrow_calls (k : ByteArray) (s : Int) (w : World) :
    Calls Try.prog 33 #[.string k, .int .i64 s] w fun e w' => e = .returned (.agg #[.string k, .int .i64 s, .string ⟨#[]⟩]) ∧ Below w.heap.size w w' := by
  go_enter Try.func33, Try.ntmps33
  go_wp2
  refine bodyPost_ret (v := .agg #[.string k, .int .i64 s, .string ⟨#[]⟩]) (by simp [results, Try.results33, go_sem]) rfl ?_
  exact ⟨rfl, by repeat (first | exact Below.refl _ _ | refine Below.setCell ?_ (by simp) _ | refine Below.alloc ?_ (by simp) _)⟩
theorem digest_nil (w : World) :
    Calls Try.prog 23 #[.slice none 0 0] w fun e w' => e = .returned (.int .u64 14695981039346656037) ∧ Below w.heap.size w w' := by
  go_enter Try.func23, Try.ntmps23
  go_wp2_with fail
  go_loopw [3, 10] (fun s3 s10 wr => s3 = .int .u64 14695981039346656037 ∧ s10 = .int .i64 0 ∧ Asd (wr = w)) (fun _ _ _ => 0)
  case atStart => exact ⟨rfl, rfl, ⟨by simp⟩⟩
  case round =>
    obtain ⟨rfl, rfl, hwr⟩ := hrel
    obtain rfl := hwr.out
    go_wp2_with fail
    go_ret
    exact ⟨rfl, Below.refl _ _⟩

def wA : List Rw := [⟨⟨#[97]⟩, 1, ⟨#[]⟩⟩, ⟨⟨#[98]⟩, 1, ⟨#[]⟩⟩]
def wB : List Rw := [⟨⟨#[98]⟩, 2, ⟨#[]⟩⟩, ⟨⟨#[99]⟩, 1, ⟨#[]⟩⟩]
def wC : List Rw := [⟨⟨#[97]⟩, 1, ⟨#[]⟩⟩, ⟨⟨#[98]⟩, 1, ⟨#[]⟩⟩, ⟨⟨#[99]⟩, 1, ⟨#[]⟩⟩, ⟨⟨#[100]⟩, 1, ⟨#[]⟩⟩, ⟨⟨#[101]⟩, 1, ⟨#[]⟩⟩]
def wS : List SpanR := [⟨⟨#[]⟩, ⟨#[99]⟩⟩, ⟨⟨#[99]⟩, ⟨#[101]⟩⟩, ⟨⟨#[101]⟩, ⟨#[]⟩⟩]
theorem w_diff : errP wA wB = 0 ∧ putR wA wB = wB ∧ goneR wA wB = [⟨#[97]⟩] := by decide +kernel
theorem w_parts : perrP wC 2 = 0 ∧ partsR wC 2 = wS := by decide +kernel

set_option maxHeartbeats 8000000 in
set_option maxRecDepth 100000 in
theorem works_calls (w : World) :
    Calls Try.prog 10 #[] w fun e w' => e = .returned (.bool true) ∧ Below w.heap.size w w' := by
  go_enter Try.func10, Try.ntmps10
  go_wp2_with fail
  refine (mkrow_calls ⟨#[97]⟩ 1 _).mono ?_
  rintro e w1 ⟨rfl, hb1⟩
  go_wp2_with fail
  refine (mkrow_calls ⟨#[98]⟩ 1 _).mono ?_
  rintro e w2 ⟨rfl, hb2⟩
  have B2 := Asd.mk (hb1.trans (hb2.mono hb1.size))
  clear hb1 hb2
  go_wp2_with fail
  have hb3 : Below w2.heap.size w2 (w2.alloc (.cells #[.string ⟨#[97]⟩, .int .i64 1, .string ⟨#[]⟩, .string ⟨#[98]⟩, .int .i64 1, .string ⟨#[]⟩] 29)) := (Below.refl _ _).alloc (Nat.le_refl _) _
  have B3 := Asd.mk (B2.out.trans (hb3.mono B2.out.size))
  have XA : Asd (Rd w.heap.size 29 (w2.alloc (.cells #[.string ⟨#[97]⟩, .int .i64 1, .string ⟨#[]⟩, .string ⟨#[98]⟩, .int .i64 1, .string ⟨#[]⟩] 29)) 3 (some ⟨w2.heap.size, 0, none⟩) 2 2 (rowCells wA)) := ⟨Rd.new_ rfl rfl⟩
  clear hb3
  generalize w2.heap.size = xab at XA ⊢
  generalize (w2.alloc (.cells #[.string ⟨#[97]⟩, .int .i64 1, .string ⟨#[]⟩, .string ⟨#[98]⟩, .int .i64 1, .string ⟨#[]⟩] 29)) = w3 at B3 XA ⊢
  refine (mkrow_calls ⟨#[98]⟩ 2 _).mono ?_
  rintro e w4 ⟨rfl, hb4⟩
  have B4 := Asd.mk (B3.out.trans (hb4.mono B3.out.size))
  have XA := Asd.mk (Rd.below XA.out hb4)
  clear hb4
  go_wp2_with fail
  refine (mkrow_calls ⟨#[99]⟩ 1 _).mono ?_
  rintro e w5 ⟨rfl, hb5⟩
  have B5 := Asd.mk (B4.out.trans (hb5.mono B4.out.size))
  have XA := Asd.mk (Rd.below XA.out hb5)
  clear hb5
  go_wp2_with fail
  have hb6 : Below w5.heap.size w5 (w5.alloc (.cells #[.string ⟨#[98]⟩, .int .i64 2, .string ⟨#[]⟩, .string ⟨#[99]⟩, .int .i64 1, .string ⟨#[]⟩] 29)) := (Below.refl _ _).alloc (Nat.le_refl _) _
  have B6 := Asd.mk (B5.out.trans (hb6.mono B5.out.size))
  have XA := Asd.mk (Rd.below XA.out hb6)
  have XB : Asd (Rd w.heap.size 29 (w5.alloc (.cells #[.string ⟨#[98]⟩, .int .i64 2, .string ⟨#[]⟩, .string ⟨#[99]⟩, .int .i64 1, .string ⟨#[]⟩] 29)) 3 (some ⟨w5.heap.size, 0, none⟩) 2 2 (rowCells wB)) := ⟨Rd.new_ rfl rfl⟩
  clear hb6
  generalize w5.heap.size = xbb at XB ⊢
  generalize (w5.alloc (.cells #[.string ⟨#[98]⟩, .int .i64 2, .string ⟨#[]⟩, .string ⟨#[99]⟩, .int .i64 1, .string ⟨#[]⟩] 29)) = w6 at B6 XA XB ⊢
  refine (Diff_calls XA.out XB.out (by omega) (by omega) B6.out.size).mono ?_
  rintro e w7 ⟨P, D, np, cp, nd, cd, rfl, hb7, hP, hD⟩
  rw [w_diff.1]
  rw [w_diff.2.1] at hP
  rw [w_diff.2.2] at hD
  have B7 := Asd.mk (B6.out.trans (hb7.mono B6.out.size))
  obtain ⟨P', cp', hp', hRP⟩ := Rd.of_own (base := w.heap.size) hP
  cases hp'
  obtain ⟨D', cd', hd', hRD⟩ := Rd.of_own (base := w.heap.size) hD
  cases hd'
  have XP := Asd.mk hRP
  have XD := Asd.mk hRD
  clear hb7 hP hD hRP hRD XA XB
  go_wp2_with fail
  refine (mkrow_calls ⟨#[97]⟩ 1 _).mono ?_
  rintro e w8 ⟨rfl, hb8⟩
  have B8 := Asd.mk (B7.out.trans (hb8.mono B7.out.size))
  have XP := Asd.mk (Rd.below XP.out hb8)
  have XD := Asd.mk (Rd.below XD.out hb8)
  clear hb8
  go_wp2_with fail
  refine (mkrow_calls ⟨#[98]⟩ 1 _).mono ?_
  rintro e w9 ⟨rfl, hb9⟩
  have B9 := Asd.mk (B8.out.trans (hb9.mono B8.out.size))
  have XP := Asd.mk (Rd.below XP.out hb9)
  have XD := Asd.mk (Rd.below XD.out hb9)
  clear hb9
  go_wp2_with fail
  refine (mkrow_calls ⟨#[99]⟩ 1 _).mono ?_
  rintro e w10 ⟨rfl, hb10⟩
  have B10 := Asd.mk (B9.out.trans (hb10.mono B9.out.size))
  have XP := Asd.mk (Rd.below XP.out hb10)
  have XD := Asd.mk (Rd.below XD.out hb10)
  clear hb10
  go_wp2_with fail
  refine (mkrow_calls ⟨#[100]⟩ 1 _).mono ?_
  rintro e w11 ⟨rfl, hb11⟩
  have B11 := Asd.mk (B10.out.trans (hb11.mono B10.out.size))
  have XP := Asd.mk (Rd.below XP.out hb11)
  have XD := Asd.mk (Rd.below XD.out hb11)
  clear hb11
  go_wp2_with fail
  refine (mkrow_calls ⟨#[101]⟩ 1 _).mono ?_
  rintro e w12 ⟨rfl, hb12⟩
  have B12 := Asd.mk (B11.out.trans (hb12.mono B11.out.size))
  have XP := Asd.mk (Rd.below XP.out hb12)
  have XD := Asd.mk (Rd.below XD.out hb12)
  clear hb12
  go_wp2_with fail
  have hb13 : Below w12.heap.size w12 (w12.alloc (.cells #[.string ⟨#[97]⟩, .int .i64 1, .string ⟨#[]⟩, .string ⟨#[98]⟩, .int .i64 1, .string ⟨#[]⟩, .string ⟨#[99]⟩, .int .i64 1, .string ⟨#[]⟩, .string ⟨#[100]⟩, .int .i64 1, .string ⟨#[]⟩, .string ⟨#[101]⟩, .int .i64 1, .string ⟨#[]⟩] 29)) := (Below.refl _ _).alloc (Nat.le_refl _) _
  have B13 := Asd.mk (B12.out.trans (hb13.mono B12.out.size))
  have XP := Asd.mk (Rd.below XP.out hb13)
  have XD := Asd.mk (Rd.below XD.out hb13)
  have XC : Asd (Rd w.heap.size 29 (w12.alloc (.cells #[.string ⟨#[97]⟩, .int .i64 1, .string ⟨#[]⟩, .string ⟨#[98]⟩, .int .i64 1, .string ⟨#[]⟩, .string ⟨#[99]⟩, .int .i64 1, .string ⟨#[]⟩, .string ⟨#[100]⟩, .int .i64 1, .string ⟨#[]⟩, .string ⟨#[101]⟩, .int .i64 1, .string ⟨#[]⟩] 29)) 3 (some ⟨w12.heap.size, 0, none⟩) 5 5 (rowCells wC)) := ⟨Rd.new_ rfl rfl⟩
  clear hb13
  generalize w12.heap.size = xcb at XC ⊢
  generalize (w12.alloc (.cells #[.string ⟨#[97]⟩, .int .i64 1, .string ⟨#[]⟩, .string ⟨#[98]⟩, .int .i64 1, .string ⟨#[]⟩, .string ⟨#[99]⟩, .int .i64 1, .string ⟨#[]⟩, .string ⟨#[100]⟩, .int .i64 1, .string ⟨#[]⟩, .string ⟨#[101]⟩, .int .i64 1, .string ⟨#[]⟩] 29)) = w13 at B13 XP XD XC ⊢
  refine (Parts_calls XC.out (by omega) B13.out.size 2).mono ?_
  rintro e w14 ⟨L, nl, cl, rfl, hb14, hL⟩
  rw [w_parts.1]
  rw [w_parts.2] at hL
  have B14 := Asd.mk (B13.out.trans (hb14.mono B13.out.size))
  have XP := Asd.mk (Rd.below XP.out hb14)
  have XD := Asd.mk (Rd.below XD.out hb14)
  obtain ⟨L', cl', hl', hRL⟩ := Rd.of_own (base := w.heap.size) hL
  cases hl'
  have XL := Asd.mk hRL
  clear hb14 hL hRL XC
  have hnp : np = 2 := by have := XP.out.len; simp [rowCells, wB, Rw.enc] at this; omega
  have hnd : nd = 1 := by have := XD.out.len; simp [tCells] at this; omega
  have hnl : nl = 3 := by have := XL.out.len; simp [sCells, wS, SpanR.enc] at this; omega
  subst hnp hnd hnl
  go_wp2_with fail
  refine (mkrow_calls ⟨#[98]⟩ 2 _).mono ?_
  rintro e w15 ⟨rfl, hb15⟩
  have B15 := Asd.mk (B14.out.trans (hb15.mono B14.out.size))
  have XP := Asd.mk (Rd.below XP.out hb15)
  have XD := Asd.mk (Rd.below XD.out hb15)
  have XL := Asd.mk (Rd.below XL.out hb15)
  clear hb15
  go_wp2_with fail
  refine (mkrow_calls ⟨#[99]⟩ 1 _).mono ?_
  rintro e w16 ⟨rfl, hb16⟩
  have B16 := Asd.mk (B15.out.trans (hb16.mono B15.out.size))
  have XP := Asd.mk (Rd.below XP.out hb16)
  have XD := Asd.mk (Rd.below XD.out hb16)
  have XL := Asd.mk (Rd.below XL.out hb16)
  clear hb16
  go_wp2_with fail
  have hb17 : Below w16.heap.size w16 (w16.alloc (.cells #[.string ⟨#[98]⟩, .int .i64 2, .string ⟨#[]⟩, .string ⟨#[99]⟩, .int .i64 1, .string ⟨#[]⟩] 29)) := (Below.refl _ _).alloc (Nat.le_refl _) _
  have B17 := Asd.mk (B16.out.trans (hb17.mono B16.out.size))
  have XP := Asd.mk (Rd.below XP.out hb17)
  have XD := Asd.mk (Rd.below XD.out hb17)
  have XL := Asd.mk (Rd.below XL.out hb17)
  have XE : Asd (Rd w.heap.size 29 (w16.alloc (.cells #[.string ⟨#[98]⟩, .int .i64 2, .string ⟨#[]⟩, .string ⟨#[99]⟩, .int .i64 1, .string ⟨#[]⟩] 29)) 3 (some ⟨w16.heap.size, 0, none⟩) 2 2 (rowCells wB)) := ⟨Rd.new_ rfl rfl⟩
  clear hb17
  generalize w16.heap.size = xeb at XE ⊢
  generalize (w16.alloc (.cells #[.string ⟨#[98]⟩, .int .i64 2, .string ⟨#[]⟩, .string ⟨#[99]⟩, .int .i64 1, .string ⟨#[]⟩] 29)) = w17 at B17 XP XD XL XE ⊢
  refine (SameRows_calls XP.out XE.out (by omega)).mono ?_
  rintro e w18 ⟨rfl, hb18⟩
  have B18 := Asd.mk (B17.out.trans (hb18.mono B17.out.size))
  have XP := Asd.mk (Rd.below XP.out hb18)
  have XD := Asd.mk (Rd.below XD.out hb18)
  have XL := Asd.mk (Rd.below XL.out hb18)
  have XE := Asd.mk (Rd.below XE.out hb18)
  clear hb18
  rw [decide_eq_true rfl]
  go_wp2_with fail
  have hb19 : Below w18.heap.size w18 (w18.alloc (.cells #[.string ⟨#[97]⟩] 9)) := (Below.refl _ _).alloc (Nat.le_refl _) _
  have B19 := Asd.mk (B18.out.trans (hb19.mono B18.out.size))
  have XP := Asd.mk (Rd.below XP.out hb19)
  have XD := Asd.mk (Rd.below XD.out hb19)
  have XL := Asd.mk (Rd.below XL.out hb19)
  have XE := Asd.mk (Rd.below XE.out hb19)
  have XF : Asd (Rd w.heap.size 9 (w18.alloc (.cells #[.string ⟨#[97]⟩] 9)) 1 (some ⟨w18.heap.size, 0, none⟩) 1 1 (tCells [⟨#[97]⟩])) := ⟨Rd.new_ rfl rfl⟩
  clear hb19
  generalize w18.heap.size = xfb at XF ⊢
  generalize (w18.alloc (.cells #[.string ⟨#[97]⟩] 9)) = w19 at B19 XP XD XL XE XF ⊢
  refine (SameTexts_calls (l := [⟨#[97]⟩]) (r := [⟨#[97]⟩]) XD.out XF.out (by omega)).mono ?_
  rintro e w21 ⟨rfl, q21, hq21⟩
  have hb21 : Below w19.heap.size w19 w21 := hq21 ▸ below_dn _ _
  have B21 := Asd.mk (B19.out.trans (hb21.mono B19.out.size))
  have XP := Asd.mk (Rd.below XP.out hb21)
  have XD := Asd.mk (Rd.below XD.out hb21)
  have XL := Asd.mk (Rd.below XL.out hb21)
  have XE := Asd.mk (Rd.below XE.out hb21)
  have XF := Asd.mk (Rd.below XF.out hb21)
  clear hb21 hq21
  rw [decide_eq_true rfl]
  go_wp2_with fail
  have hb22 : Below w21.heap.size w21 (w21.alloc (.cells #[.string ⟨#[]⟩, .string ⟨#[99]⟩, .string ⟨#[99]⟩, .string ⟨#[101]⟩, .string ⟨#[101]⟩, .string ⟨#[]⟩] 39)) := (Below.refl _ _).alloc (Nat.le_refl _) _
  have B22 := Asd.mk (B21.out.trans (hb22.mono B21.out.size))
  have XP := Asd.mk (Rd.below XP.out hb22)
  have XD := Asd.mk (Rd.below XD.out hb22)
  have XL := Asd.mk (Rd.below XL.out hb22)
  have XE := Asd.mk (Rd.below XE.out hb22)
  have XF := Asd.mk (Rd.below XF.out hb22)
  have XG : Asd (Rd w.heap.size 39 (w21.alloc (.cells #[.string ⟨#[]⟩, .string ⟨#[99]⟩, .string ⟨#[99]⟩, .string ⟨#[101]⟩, .string ⟨#[101]⟩, .string ⟨#[]⟩] 39)) 2 (some ⟨w21.heap.size, 0, none⟩) 3 3 (sCells wS)) := ⟨Rd.new_ rfl rfl⟩
  clear hb22
  generalize w21.heap.size = xgb at XG ⊢
  generalize (w21.alloc (.cells #[.string ⟨#[]⟩, .string ⟨#[99]⟩, .string ⟨#[99]⟩, .string ⟨#[101]⟩, .string ⟨#[101]⟩, .string ⟨#[]⟩] 39)) = w22 at B22 XP XD XL XE XF XG ⊢
  refine (SameSpans_calls (l := wS) (r := wS) XL.out XG.out (by omega)).mono ?_
  rintro e w23 ⟨rfl, q23, hq23⟩
  have hb23 : Below w22.heap.size w22 w23 := hq23 ▸ below_dn _ _
  have B23 := Asd.mk (B22.out.trans (hb23.mono B22.out.size))
  have XP := Asd.mk (Rd.below XP.out hb23)
  have XD := Asd.mk (Rd.below XD.out hb23)
  have XL := Asd.mk (Rd.below XL.out hb23)
  have XE := Asd.mk (Rd.below XE.out hb23)
  have XF := Asd.mk (Rd.below XF.out hb23)
  have XG := Asd.mk (Rd.below XG.out hb23)
  clear hb23 hq23
  rw [decide_eq_true rfl]
  go_wp2_with fail
  refine (digest_nil _).mono ?_
  rintro e w24 ⟨rfl, hb24⟩
  have B24 := Asd.mk (B23.out.trans (hb24.mono B23.out.size))
  clear hb24
  go_wp2_with fail
  go_ret
  exact ⟨rfl, B24.out⟩
end Go.Proofs.Ytgiajfgeplekbaa

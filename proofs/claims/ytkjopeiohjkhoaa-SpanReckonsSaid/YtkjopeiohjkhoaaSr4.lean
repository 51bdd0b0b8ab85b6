/- The document's sorted: two halves sorted, and joined. -/
import Derived.Test.YtkjopeiohjkhoaaSr3
import Derived.Test.YtkjopeiohjkhoaaS0
set_option linter.unusedVariables false
set_option linter.unusedSimpArgs false
namespace Go.Proofs.Ytkjopeiohjkhoaa
open Go.RowKit

def SortedPost (base : Nat) (w : World) (l : List ByteArray) (e : Ending) (w' : World) : Prop :=
  ∃ (P : Option Addr) (n c : Nat) (out : List ByteArray), e = .returned (.slice P n c) ∧ Below w.heap.size w w' ∧ Rd base 9 w' 1 P n c (tCells out) ∧ SortedOf l out
theorem tdiv2 (n : Nat) : (n : Int).tdiv 2 = ((n / 2 : Nat) : Int) := by
  rw [Int.tdiv_eq_ediv_of_nonneg (by omega)]
  omega

set_option maxHeartbeats 16000000 in
set_option maxRecDepth 100000 in
theorem sorted_calls {base : Nat} : ∀ (N : Nat) (w : World) (A : Option Addr) (n c : Nat) (l : List ByteArray), n ≤ N → n ≤ 100000 → base ≤ w.heap.size → Rd base 9 w 1 A n c (tCells l) →
    Calls Try.prog 47 #[.slice A n c] w (SortedPost base w l) := by
  intro N
  induction N with
  | zero =>
    intro w A n c l hN hbig hbs hr
    have hn := hr.count (enc := tEnc) (fun _ => rfl) (by omega)
    have h0 : n = 0 := by omega
    subst h0
    have R := Asd.mk hr
    have SM := Asd.mk (sorted_small (l := l) (by omega))
    clear hr hn
    go_enter Try.func47, Try.ntmps47
    go_wp2_with fail
    go_ret
    exact ⟨A, 0, c, l, rfl, Below.refl _ _, R.out, SM.out⟩
  | succ N ih =>
    intro w A n c l hN hbig hbs hr
    have hn := hr.count (enc := tEnc) (fun _ => rfl) (by omega)
    by_cases h2 : n < 2
    · have R := Asd.mk hr
      have SM := Asd.mk (sorted_small (l := l) (by omega))
      clear hr hn
      go_enter Try.func47, Try.ntmps47
      go_wp2_with fail
      go_ret
      exact ⟨A, n, c, l, rfl, Below.refl _ _, R.out, SM.out⟩
    · have hcap := hr.cap
      obtain ⟨b, off, rfl, hbl, _⟩ := hr.at_ (by omega)
      obtain ⟨h, hh⟩ : ∃ h, n / 2 = h := ⟨_, rfl⟩
      have hh1 : 1 ≤ h ∧ h + 1 ≤ n ∧ h ≤ N ∧ n - h ≤ N := by omega
      have hA := hr.prefix_ (hi := h) (c' := c) (by omega) (by omega) (Nat.le_refl _) hr.nil
      have hB := hr.cut (lo := h) (hi := n) (c' := c) (by omega) (Nat.le_refl _) hcap (Nat.le_refl _)
      rw [if_neg (by omega)] at hB
      have hl1 : (tCells l).take (h * 1) = tCells (l.take h) := by unfold tCells; rw [flat_take tEnc 1 (fun _ => rfl)]
      have hl2 : ((tCells l).drop (h * 1)).take ((n - h) * 1) = tCells (l.drop h) := by
        unfold tCells
        rw [flat_drop tEnc 1 (fun _ => rfl), List.take_of_length_le]
        rw [flat_len tEnc 1 (fun _ => rfl), List.length_drop, hn]
        omega
      rw [hl1] at hA
      rw [hl2] at hB
      have hB' : Rd base 9 w 1 (some ⟨b, off + h, none⟩) (n - h) (c - h) (tCells (l.drop h)) := by simpa [add_lit'] using hB
      have RA := Asd.mk hA
      have RB := Asd.mk hB'
      have IHa : Asd (∀ W : World, base ≤ W.heap.size → Rd base 9 W 1 (some ⟨b, off, none⟩) h c (tCells (l.take h)) → Calls Try.prog 47 #[.slice (some ⟨b, off, none⟩) h c] W (SortedPost base W (l.take h))) := ⟨fun W h1 h2 => ih W _ _ _ _ (by omega) (by omega) h1 h2⟩
      have IHb : Asd (∀ W : World, base ≤ W.heap.size → Rd base 9 W 1 (some ⟨b, off + h, none⟩) (n - h) (c - h) (tCells (l.drop h)) → Calls Try.prog 47 #[.slice (some ⟨b, off + h, none⟩) (n - h) (c - h)] W (SortedPost base W (l.drop h))) := ⟨fun W h1 h2 => ih W _ _ _ _ (by omega) (by omega) h1 h2⟩
      have NL := Asd.mk hn
      have LL := Asd.mk (List.take_append_drop h l).symm
      have BS := Asd.mk hbs
      have hhn : h ≤ n := by omega
      have hhc : h ≤ c := by omega
      have hch : ¬ c = h := by omega
      have hq : (n : Int).tdiv 2 = (h : Int) := by rw [tdiv2, hh]
      have hq2 : IntKind.i64.wrap (h : Int) = (h : Int) := IntWalk.i64_in _ (by omega)
      have hi1 : (0 : Int) ≤ (h : Int) ∧ (h : Int) ≤ (n : Int) ∧ (h : Int) ≤ (c : Int) ∧ (n : Int) ≤ (c : Int) := by omega
      have HH1 := Asd.mk hh1
      clear hr hA hB hB' hl1 hl2 ih hbs hh hn hN hbl hh1
      go_enter Try.func47, Try.ntmps47
      go_wp2_with fail
      go_region_with (first
        | (go_at_call_of 47 (Value.slice (some ⟨b, off, none⟩) h c); refine (IHa.out _ (by exact BS.out) (RA.out.below ((Below.refl _ _).drew))).mono ?_; rintro e wa ⟨Pa, na, ca, la, rfl, hba, ra, sa⟩; have RB1 := Asd.mk ((RB.out.below ((Below.refl _ _).drew)).below hba); have BA := Asd.mk (((Below.refl w.heap.size w).drew).trans hba); have XA := Asd.mk ra; have SA := Asd.mk sa; clear hba ra sa)
        | (go_at_call_of 47 (Value.slice (some ⟨b, off + h, none⟩) (n - h) (c - h)); refine (IHb.out _ (Nat.le_trans BS.out BA.out.size) RB1.out).mono ?_; rintro e wb ⟨Pb, nb, cb, lb, rfl, hbb, rb, sb⟩; have BB := Asd.mk (BA.out.trans (hbb.mono BA.out.size)); have XA2 := Asd.mk (Rd.below XA.out hbb); have XB := Asd.mk rb; have SB := Asd.mk sb; clear hbb rb sb))
      clear hq hq2 hi1 hch IHa IHb RA RB RB1 XA BA
      have XA := XA2
      clear XA2
      have hna := XA.out.count (enc := tEnc) (fun _ => rfl) (by omega)
      have hnb := XB.out.count (enc := tEnc) (fun _ => rfl) (by omega)
      have hle : na + nb ≤ 100000 := by
        have h1 := SA.out.2.2
        have h2 := SB.out.2.2
        rw [List.length_take] at h1
        rw [List.length_drop] at h2
        have h3 := NL.out
        omega
      have NA := Asd.mk hna
      have NB := Asd.mk hnb
      clear hna hnb
      go_wp2_with fail
      go_loopw [5, 6, 7] (fun s5 s6 s7 wr => ∃ (i k no co : Nat) (Po : Option Addr) (out : List ByteArray), s5 = .slice Po no co ∧ s6 = .int .i64 i ∧ s7 = .int .i64 k ∧ i ≤ na ∧ k ≤ nb ∧ no ≤ i + k ∧ Asd (Below wb.heap.size wb wr) ∧ Asd (wr.ownsRow wb.heap.size 9 1 (.slice Po no co) no (tCells out)) ∧ Asd (MergeI la lb i k out)) (fun _ s6 s7 _ => (na - (intOf s6).toNat) + (nb - (intOf s7).toNat))
      case atStart => exact ⟨0, 0, 0, 0, none, [], rfl, rfl, rfl, by omega, by omega, by omega, ⟨Below.refl _ _⟩, ⟨World.ownsRow_nil _ _ _ _⟩, ⟨MergeI.start _ _⟩⟩
      case round =>
        obtain ⟨i, k, no, co, Po, out, rfl, rfl, rfl, hin, hkn, hno, BW, OW, MI⟩ := hrel
        by_cases hi : i < na
        · by_cases hk : k < nb
          · have XA0 := XA
            obtain ⟨ab, ao, rfl, hab, hil, hcs⟩ := (XA.out.below BW.out).at_enc (enc := tEnc) (fun _ => rfl) (by omega) hi
            have hcapa : i < ca := Nat.lt_of_lt_of_le hi XA.out.cap
            have c0 : wr.cell? ⟨ab, ao + i, none⟩ = some (.string la[i]) := by simpa using hcs 0 _ rfl
            obtain ⟨x, hx⟩ : ∃ x, la[i] = x := ⟨_, rfl⟩
            rw [hx] at c0
            have HX : Asd (∀ h : i < la.length, la[i] = x) := ⟨fun _ => hx⟩
            clear hcs hx
            obtain ⟨bb, bo, rfl, hbb, hkl, hds⟩ := (XB.out.below BW.out).at_enc (enc := tEnc) (fun _ => rfl) (by omega) hk
            have hcapb : k < cb := Nat.lt_of_lt_of_le hk XB.out.cap
            have d0 : wr.cell? ⟨bb, bo + k, none⟩ = some (.string lb[k]) := by simpa using hds 0 _ rfl
            obtain ⟨y, hy⟩ : ∃ y, lb[k] = y := ⟨_, rfl⟩
            rw [hy] at d0
            have HY : Asd (∀ h : k < lb.length, lb[k] = y) := ⟨fun _ => hy⟩
            clear hds hy
            have hp5 : (i : Int) < (na : Int) := by omega
            have hq1 : ((k : Int) == (nb : Int)) = false := by rw [beq_eq_false_iff_ne]; omega
            have hr1 : ((i : Int) == (na : Int)) = false := by rw [beq_eq_false_iff_ne]; omega
            have l1 := less_eq x y
            have l2 := less_eq y x
            rcases klt_tri x y with hlt | heq | hgt
            · as_aux_lemma =>
              rw [decide_eq_true hlt] at l1
              rw [decide_eq_false (klt_asymm hlt)] at l2
              have HL := Asd.mk hlt
              clear hlt
              go_wp2_with fail
              go_quiet (fail)
              have BW1 : Asd (Below wb.heap.size wb (wr.drewN nq)) := ⟨BW.out.trans (below_dn _ _)⟩
              have OW1 : Asd ((wr.drewN nq).ownsRow wb.heap.size 9 1 (.slice Po no co) no (tCells out)) := ⟨OW.out⟩
              have c01 : (wr.drewN nq).cell? ⟨ab, ao + i, none⟩ = some (.string x) := c0
              have d01 : (wr.drewN nq).cell? ⟨bb, bo + k, none⟩ = some (.string y) := d0
              clear BW OW c0 d0
              generalize wr.drewN nq = w3 at *
              clear l1 l2 hq1 hr1 hp5
              have SIZ := Asd.mk BW1.out.size
              go_wp2_with (at_builtin; go_loud (refine wpList_append_mine (base := base) (own := wb.heap.size) (n := no) (m := 1) (v := .slice Po no co) (xs := tCells out) (ys := tCells [x]) rfl (.tmp 55) (.tmp 60) 57 rfl elt_text rfl rfl (OW1.out.alloc _) (Rd.new_ rfl rfl) (text_one _) (by unfold maxLen; omega) (by omega) (Nat.le_trans SIZ.out (by simp)) ?_; intro v9 w9 O9' G9'; obtain ⟨P9, c9, rfl, _⟩ := Rd.of_own (base := base) O9'; have O9 : Asd (w9.ownsRow wb.heap.size 9 1 (.slice P9 (no + 1) c9) (no + 1) (tCells (out ++ [x]))) := ⟨by rw [← tCells_snoc]; exact O9'⟩; have B9 := Asd.mk ((BW1.out.alloc SIZ.out (.cells #[.string x] 9)).grown G9' (Nat.le_trans SIZ.out (by simp)) (fun j hj => (OW1.out.lt j hj).1)); clear O9' G9'))
              go_roundw
              case measure => simp [intOf]; omega
              case rel => exact ⟨i + 1, k, no + 1, c9, P9, _, rfl, by go_num, by go_num, by omega, by omega, by omega, B9, O9, ⟨by have := MI.out.takeA SA.out.1 (by rw [NA.out]; exact hi) (fun h => by rw [HX.out, HY.out]; exact HL.out); rw [HX.out] at this; exact this⟩⟩
            · as_aux_lemma =>
              rw [decide_eq_false (fun h => klt_ne h heq)] at l1
              rw [decide_eq_false (fun h => klt_ne h heq.symm)] at l2
              have HE := Asd.mk heq
              clear heq
              go_wp2_with fail
              go_quiet (fail)
              have BW1 : Asd (Below wb.heap.size wb (wr.drewN nq)) := ⟨BW.out.trans (below_dn _ _)⟩
              have OW1 : Asd ((wr.drewN nq).ownsRow wb.heap.size 9 1 (.slice Po no co) no (tCells out)) := ⟨OW.out⟩
              have c01 : (wr.drewN nq).cell? ⟨ab, ao + i, none⟩ = some (.string x) := c0
              have d01 : (wr.drewN nq).cell? ⟨bb, bo + k, none⟩ = some (.string y) := d0
              clear BW OW c0 d0
              generalize wr.drewN nq = w3 at *
              go_wp2_with fail
              go_quiet (fail)
              have BW2 : Asd (Below wb.heap.size wb (w3.drewN nq)) := ⟨BW1.out.trans (below_dn _ _)⟩
              have OW2 : Asd ((w3.drewN nq).ownsRow wb.heap.size 9 1 (.slice Po no co) no (tCells out)) := ⟨OW1.out⟩
              have c02 : (w3.drewN nq).cell? ⟨ab, ao + i, none⟩ = some (.string x) := c01
              have d02 : (w3.drewN nq).cell? ⟨bb, bo + k, none⟩ = some (.string y) := d01
              clear BW1 OW1 c01 d01
              generalize w3.drewN nq = w4 at *
              clear l1 l2 hq1 hr1 hp5
              have SIZ := Asd.mk BW2.out.size
              go_wp2_with (at_builtin; go_loud (refine wpList_append_mine (base := base) (own := wb.heap.size) (n := no) (m := 1) (v := .slice Po no co) (xs := tCells out) (ys := tCells [x]) rfl (.tmp 88) (.tmp 93) 57 rfl elt_text rfl rfl (OW2.out.alloc _) (Rd.new_ rfl rfl) (text_one _) (by unfold maxLen; omega) (by omega) (Nat.le_trans SIZ.out (by simp)) ?_; intro v9 w9 O9' G9'; obtain ⟨P9, c9, rfl, _⟩ := Rd.of_own (base := base) O9'; have O9 : Asd (w9.ownsRow wb.heap.size 9 1 (.slice P9 (no + 1) c9) (no + 1) (tCells (out ++ [x]))) := ⟨by rw [← tCells_snoc]; exact O9'⟩; have B9 := Asd.mk ((BW2.out.alloc SIZ.out (.cells #[.string x] 9)).grown G9' (Nat.le_trans SIZ.out (by simp)) (fun j hj => (OW2.out.lt j hj).1)); clear O9' G9'))
              go_roundw
              case measure => simp [intOf]; omega
              case rel => exact ⟨i + 1, k + 1, no + 1, c9, P9, _, rfl, by go_num, by go_num, by omega, by omega, by omega, B9, O9, ⟨by have := MI.out.both SA.out.1 SB.out.1 (by rw [NA.out]; exact hi) (by rw [NB.out]; exact hk) (by rw [HX.out, HY.out]; exact HE.out); rw [HX.out] at this; exact this⟩⟩
            · as_aux_lemma =>
              rw [decide_eq_false (klt_asymm hgt)] at l1
              rw [decide_eq_true hgt] at l2
              have HL := Asd.mk hgt
              clear hgt
              go_wp2_with fail
              go_quiet (fail)
              have BW1 : Asd (Below wb.heap.size wb (wr.drewN nq)) := ⟨BW.out.trans (below_dn _ _)⟩
              have OW1 : Asd ((wr.drewN nq).ownsRow wb.heap.size 9 1 (.slice Po no co) no (tCells out)) := ⟨OW.out⟩
              have c01 : (wr.drewN nq).cell? ⟨ab, ao + i, none⟩ = some (.string x) := c0
              have d01 : (wr.drewN nq).cell? ⟨bb, bo + k, none⟩ = some (.string y) := d0
              clear BW OW c0 d0
              generalize wr.drewN nq = w3 at *
              go_wp2_with fail
              go_quiet (fail)
              have BW2 : Asd (Below wb.heap.size wb (w3.drewN nq)) := ⟨BW1.out.trans (below_dn _ _)⟩
              have OW2 : Asd ((w3.drewN nq).ownsRow wb.heap.size 9 1 (.slice Po no co) no (tCells out)) := ⟨OW1.out⟩
              have c02 : (w3.drewN nq).cell? ⟨ab, ao + i, none⟩ = some (.string x) := c01
              have d02 : (w3.drewN nq).cell? ⟨bb, bo + k, none⟩ = some (.string y) := d01
              clear BW1 OW1 c01 d01
              generalize w3.drewN nq = w4 at *
              clear l1 l2 hq1 hr1 hp5
              have SIZ := Asd.mk BW2.out.size
              go_wp2_with (at_builtin; go_loud (refine wpList_append_mine (base := base) (own := wb.heap.size) (n := no) (m := 1) (v := .slice Po no co) (xs := tCells out) (ys := tCells [y]) rfl (.tmp 79) (.tmp 84) 57 rfl elt_text rfl rfl (OW2.out.alloc _) (Rd.new_ rfl rfl) (text_one _) (by unfold maxLen; omega) (by omega) (Nat.le_trans SIZ.out (by simp)) ?_; intro v9 w9 O9' G9'; obtain ⟨P9, c9, rfl, _⟩ := Rd.of_own (base := base) O9'; have O9 : Asd (w9.ownsRow wb.heap.size 9 1 (.slice P9 (no + 1) c9) (no + 1) (tCells (out ++ [y]))) := ⟨by rw [← tCells_snoc]; exact O9'⟩; have B9 := Asd.mk ((BW2.out.alloc SIZ.out (.cells #[.string y] 9)).grown G9' (Nat.le_trans SIZ.out (by simp)) (fun j hj => (OW2.out.lt j hj).1)); clear O9' G9'))
              go_roundw
              case measure => simp [intOf]; omega
              case rel => exact ⟨i, k + 1, no + 1, c9, P9, _, rfl, by go_num, by go_num, by omega, by omega, by omega, B9, O9, ⟨by have := MI.out.takeB SB.out.1 (by rw [NB.out]; exact hk) (fun h => by rw [HX.out, HY.out]; exact HL.out); rw [HY.out] at this; exact this⟩⟩
          · as_aux_lemma =>
            obtain ⟨ab, ao, rfl, hab, hil, hcs⟩ := (XA.out.below BW.out).at_enc (enc := tEnc) (fun _ => rfl) (by omega) hi
            have hcapa : i < ca := Nat.lt_of_lt_of_le hi XA.out.cap
            have c0 : wr.cell? ⟨ab, ao + i, none⟩ = some (.string la[i]) := by simpa using hcs 0 _ rfl
            obtain ⟨x, hx⟩ : ∃ x, la[i] = x := ⟨_, rfl⟩
            rw [hx] at c0
            have HX : Asd (∀ h : i < la.length, la[i] = x) := ⟨fun _ => hx⟩
            clear hcs hx
            have hp5 : (i : Int) < (na : Int) := by omega
            have hq1 : ((k : Int) == (nb : Int)) = true := by rw [beq_iff_eq]; omega
            have KN : Asd (k = nb) := ⟨by omega⟩
            go_wp2_with fail
            go_quiet (fail)
            have BW1 : Asd (Below wb.heap.size wb (wr.drewN nq)) := ⟨BW.out.trans (below_dn _ _)⟩
            have OW1 : Asd ((wr.drewN nq).ownsRow wb.heap.size 9 1 (.slice Po no co) no (tCells out)) := ⟨OW.out⟩
            have c01 : (wr.drewN nq).cell? ⟨ab, ao + i, none⟩ = some (.string x) := c0
            clear BW OW c0
            generalize wr.drewN nq = w3 at *
            clear hq1 hp5
            have SIZ := Asd.mk BW1.out.size
            go_wp2_with (at_builtin; go_loud (refine wpList_append_mine (base := base) (own := wb.heap.size) (n := no) (m := 1) (v := .slice Po no co) (xs := tCells out) (ys := tCells [x]) rfl (.tmp 55) (.tmp 60) 57 rfl elt_text rfl rfl (OW1.out.alloc _) (Rd.new_ rfl rfl) (text_one _) (by unfold maxLen; omega) (by omega) (Nat.le_trans SIZ.out (by simp)) ?_; intro v9 w9 O9' G9'; obtain ⟨P9, c9, rfl, _⟩ := Rd.of_own (base := base) O9'; have O9 : Asd (w9.ownsRow wb.heap.size 9 1 (.slice P9 (no + 1) c9) (no + 1) (tCells (out ++ [x]))) := ⟨by rw [← tCells_snoc]; exact O9'⟩; have B9 := Asd.mk ((BW1.out.alloc SIZ.out (.cells #[.string x] 9)).grown G9' (Nat.le_trans SIZ.out (by simp)) (fun j hj => (OW1.out.lt j hj).1)); clear O9' G9'))
            go_roundw
            case measure => simp [intOf]; omega
            case rel => exact ⟨i + 1, k, no + 1, c9, P9, _, rfl, by go_num, by go_num, by omega, by omega, by omega, B9, O9, ⟨by have := MI.out.takeA SA.out.1 (by rw [NA.out]; exact hi) (fun h => absurd h (by rw [NB.out, KN.out]; exact Nat.lt_irrefl _)); rw [HX.out] at this; exact this⟩⟩
        · by_cases hk : k < nb
          · as_aux_lemma =>
            obtain ⟨bb, bo, rfl, hbb, hkl, hds⟩ := (XB.out.below BW.out).at_enc (enc := tEnc) (fun _ => rfl) (by omega) hk
            have hcapb : k < cb := Nat.lt_of_lt_of_le hk XB.out.cap
            have d0 : wr.cell? ⟨bb, bo + k, none⟩ = some (.string lb[k]) := by simpa using hds 0 _ rfl
            obtain ⟨y, hy⟩ : ∃ y, lb[k] = y := ⟨_, rfl⟩
            rw [hy] at d0
            have HY : Asd (∀ h : k < lb.length, lb[k] = y) := ⟨fun _ => hy⟩
            clear hds hy
            have hp5 : decide ((i : Int) < (na : Int)) = false := decide_eq_false (by omega)
            have hp6 : ¬ (i : Int) < (na : Int) := by omega
            have hs5 : (k : Int) < (nb : Int) := by omega
            have hq1 : ((k : Int) == (nb : Int)) = false := by rw [beq_eq_false_iff_ne]; omega
            have hr1 : ((i : Int) == (na : Int)) = true := by rw [beq_iff_eq]; omega
            have KN : Asd (i = na) := ⟨by omega⟩
            go_wp2_with fail
            go_quiet (fail)
            have BW1 : Asd (Below wb.heap.size wb (wr.drewN nq)) := ⟨BW.out.trans (below_dn _ _)⟩
            have OW1 : Asd ((wr.drewN nq).ownsRow wb.heap.size 9 1 (.slice Po no co) no (tCells out)) := ⟨OW.out⟩
            have d01 : (wr.drewN nq).cell? ⟨bb, bo + k, none⟩ = some (.string y) := d0
            clear BW OW d0
            generalize wr.drewN nq = w3 at *
            go_wp2_with fail
            go_quiet (fail)
            have BW2 : Asd (Below wb.heap.size wb (w3.drewN nq)) := ⟨BW1.out.trans (below_dn _ _)⟩
            have OW2 : Asd ((w3.drewN nq).ownsRow wb.heap.size 9 1 (.slice Po no co) no (tCells out)) := ⟨OW1.out⟩
            have d02 : (w3.drewN nq).cell? ⟨bb, bo + k, none⟩ = some (.string y) := d01
            clear BW1 OW1 d01
            generalize w3.drewN nq = w4 at *
            clear hq1 hr1 hp5 hp6 hs5
            have SIZ := Asd.mk BW2.out.size
            go_wp2_with (at_builtin; go_loud (refine wpList_append_mine (base := base) (own := wb.heap.size) (n := no) (m := 1) (v := .slice Po no co) (xs := tCells out) (ys := tCells [y]) rfl (.tmp 79) (.tmp 84) 57 rfl elt_text rfl rfl (OW2.out.alloc _) (Rd.new_ rfl rfl) (text_one _) (by unfold maxLen; omega) (by omega) (Nat.le_trans SIZ.out (by simp)) ?_; intro v9 w9 O9' G9'; obtain ⟨P9, c9, rfl, _⟩ := Rd.of_own (base := base) O9'; have O9 : Asd (w9.ownsRow wb.heap.size 9 1 (.slice P9 (no + 1) c9) (no + 1) (tCells (out ++ [y]))) := ⟨by rw [← tCells_snoc]; exact O9'⟩; have B9 := Asd.mk ((BW2.out.alloc SIZ.out (.cells #[.string y] 9)).grown G9' (Nat.le_trans SIZ.out (by simp)) (fun j hj => (OW2.out.lt j hj).1)); clear O9' G9'))
            go_roundw
            case measure => simp [intOf]; omega
            case rel => exact ⟨i, k + 1, no + 1, c9, P9, _, rfl, by go_num, by go_num, by omega, by omega, by omega, B9, O9, ⟨by have := MI.out.takeB SB.out.1 (by rw [NB.out]; exact hk) (fun h => absurd h (by rw [NA.out, KN.out]; exact Nat.lt_irrefl _)); rw [HY.out] at this; exact this⟩⟩
          · as_aux_lemma =>
            have hie : i = na := by omega
            have hke : k = nb := by omega
            have DN : Asd (SortedOf l out) := ⟨by
              have h := MI.out
              rw [hie, hke, ← NA.out, ← NB.out] at h
              exact h.done LL.out SA.out SB.out⟩
            have hp5 : decide ((i : Int) < (na : Int)) = false := decide_eq_false (by omega)
            have hp6 : ¬ (i : Int) < (na : Int) := by omega
            have hs5 : decide ((k : Int) < (nb : Int)) = false := decide_eq_false (by omega)
            have hs6 : ¬ (k : Int) < (nb : Int) := by omega
            clear hie hke
            go_wp2_with fail
            go_ret
            obtain ⟨P', c', e1, hrd⟩ := Rd.of_own (base := base) OW.out
            cases e1
            exact ⟨Po, no, co, out, rfl, BB.out.trans (BW.out.mono BB.out.size), hrd, DN.out⟩
end Go.Proofs.Ytkjopeiohjkhoaa

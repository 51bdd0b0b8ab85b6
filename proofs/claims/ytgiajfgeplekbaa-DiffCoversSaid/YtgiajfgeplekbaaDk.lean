/- DiffCovers, the walk. -/
import Derived.Test.YtgiajfgeplekbaaDc
set_option linter.unusedVariables false
set_option linter.unusedSimpArgs false
namespace Go.Proofs.Ytgiajfgeplekbaa
open Go.RowKit

theorem one_small : 1 ≤ 140737488355328 := by decide
theorem wrap_succ {i : Nat} (h : i ≤ 1000000) : wrap64 ((i : Int) + 1) = (i : Int) + 1 := by unfold wrap64; omega
theorem kwrap_succ {i : Nat} (h : i ≤ 1000000) : IntKind.i64.wrap ((i : Int) + 1) = (i : Int) + 1 := IntWalk.i64_in _ (by omega)
theorem cnt_step {k P m mn : Nat} (hm : m = min k (P + mn) - min k P) : (P ≤ k ∧ k < P + mn → m + 1 = min (k + 1) (P + mn) - min (k + 1) P) ∧ (¬ (P ≤ k ∧ k < P + mn) → m = min (k + 1) (P + mn) - min (k + 1) P) := by
  constructor <;> intro h <;> omega
theorem div_in {k i mn : Nat} (hm : 1 ≤ mn) : i = k / mn ↔ i * mn ≤ k ∧ k < i * mn + mn := by
  have h1 := Nat.le_div_iff_mul_le (x := i) (y := k) (show 0 < mn by omega)
  have h2 := Nat.div_lt_iff_lt_mul (x := k) (y := i + 1) (show 0 < mn by omega)
  rw [Nat.succ_mul] at h2
  generalize k / mn = v at *
  generalize i * mn = u at *
  omega
theorem wrap_range (x : Int) : -9223372036854775808 ≤ wrap64 x ∧ wrap64 x ≤ 9223372036854775807 := by unfold wrap64; omega
theorem wrap_id {x : Int} (h1 : -9223372036854775808 ≤ x) (h2 : x ≤ 9223372036854775807) : wrap64 x = x := by unfold wrap64; omega
theorem tdiv_small {v : Int} {m : Int} (hm : 1 ≤ m) (hv : v < 2 * m) (hl : -9223372036854775808 ≤ v) : -9223372036854775808 ≤ v.tdiv m ∧ v.tdiv m ≤ 1 := by
  by_cases h0 : 0 ≤ v
  · rw [Int.tdiv_eq_ediv_of_nonneg h0]
    have h1 : v / m < 2 := Int.ediv_lt_of_lt_mul (by omega) hv
    have h2 : 0 ≤ v / m := Int.ediv_nonneg h0 (by omega)
    omega
  · have h1 : v.tdiv m = - ((-v).tdiv m) := by rw [Int.neg_tdiv]; omega
    have h2 : (-v).tdiv m = (-v) / m := Int.tdiv_eq_ediv_of_nonneg (by omega)
    have h3 : 0 ≤ (-v) / m := Int.ediv_nonneg (by omega) (by omega)
    have h4 : (-v) / m ≤ -v := Int.ediv_le_self _ (by omega)
    rw [h1, h2]
    omega
theorem covers_q {n mn i : Nat} (hn : n ≤ 300) (hm : 1 ≤ mn) (hmost : (mn : Int) ≤ 9223372036854775807) (hi : i = (n - 1) / mn + 1) :
    (1 < wrap64 ((wrap64 (wrap64 ((n : Int) + mn) - 1)).tdiv mn) → (i : Int) = wrap64 ((wrap64 (wrap64 ((n : Int) + mn) - 1)).tdiv mn)) ∧ (wrap64 ((wrap64 (wrap64 ((n : Int) + mn) - 1)).tdiv mn) ≤ 1 → i = 1) := by
  by_cases hA : (n : Int) + mn ≤ 9223372036854775807
  · rw [wrap_id (x := (n : Int) + mn) (by omega) hA, wrap_id (x := (n : Int) + mn - 1) (by omega) (by omega)]
    have h1 : ((n : Int) + mn - 1).tdiv mn = (((n + mn - 1) / mn : Nat) : Int) := by
      rw [Int.tdiv_eq_ediv_of_nonneg (by omega), show (n : Int) + mn - 1 = ((n + mn - 1 : Nat) : Int) by omega]
      rfl
    have h2 : (n + mn - 1) / mn ≤ n + mn - 1 := Nat.div_le_self _ _
    have hi1 : 1 ≤ i := by rw [hi]; exact Nat.succ_le_succ (Nat.zero_le _)
    have hQ : (n = 0 ∧ (n + mn - 1) / mn = 0 ∧ i = 1) ∨ (n + mn - 1) / mn = i := by
      by_cases h0 : n = 0
      · left
        subst h0
        refine ⟨rfl, Nat.div_eq_of_lt (by omega), ?_⟩
        rw [hi, Nat.div_eq_of_lt (by omega)]
      · right
        rw [show n + mn - 1 = (n - 1) + mn by omega, Nat.add_div_right _ (by omega), hi]
    rw [h1]
    clear h1 hi
    generalize (n + mn - 1) / mn = Q at *
    have hw : wrap64 (Q : Int) = (Q : Int) := wrap_id (by omega) (by omega)
    rw [hw]
    clear hw
    omega
  · have h1 : (n - 1) / mn = 0 := Nat.div_eq_of_lt (by omega)
    have hr := wrap_range (wrap64 ((n : Int) + mn) - 1)
    generalize wrap64 (wrap64 ((n : Int) + mn) - 1) = v at *
    have ht := tdiv_small (v := v) (m := (mn : Int)) (by omega) (by omega) hr.1
    rw [wrap_id ht.1 (by omega)]
    generalize v.tdiv (mn : Int) = t at *
    omega

set_option maxHeartbeats 16000000 in
set_option maxRecDepth 100000 in
theorem Covers_walk {w : World} {B : Option Addr} {n d : Nat} {rows : List Rw} (hr : Rd w.heap.size 29 w 3 B n d (rowCells rows)) (most : Int) (hmost : most ≤ 9223372036854775807) (key : ByteArray) (hkey : key.size ≤ 9223372036854775807) :
    Calls Try.prog 4 #[.slice B n d, .int .i64 most, .string key] w fun e w' => e = .returned (.bool true) ∧ Below w.heap.size w w' := by
  have hcn := hr.count (enc := Rw.enc) (fun _ => rfl) (by omega)
  have RR := Asd.mk hr
  have N := Asd.mk hcn
  have MOST := Asd.mk hmost
  have KEY := Asd.mk hkey
  clear hr hcn hmost hkey
  go_enter Try.func4, Try.ntmps4
  go_wp2_with fail
  refine (works_calls _).mono ?_
  rintro e w1 ⟨rfl, hb1⟩
  have B1 := Asd.mk hb1
  clear hb1
  by_cases hn : (300 : Int) < (n : Int)
  · go_wp2_with fail
    go_ret
    exact ⟨rfl, B1.out⟩
  go_wp2_with fail
  refine (Parts_calls (RR.out.below B1.out) (by omega) B1.out.size most).mono ?_
  rintro e w2 ⟨L, nl, cl, rfl, hb2, hL⟩
  have B2 := Asd.mk (B1.out.trans (hb2.mono B1.out.size))
  obtain ⟨L', cl', e1, hRL⟩ := Rd.of_own (base := w.heap.size) hL
  cases e1
  clear hb2 hL
  by_cases he : perrP rows most = 0
  · have hw0 : wrongP rows = 0 ∧ ¬ most < 1 := by
      unfold perrP at he
      split at he
      · rename_i h
        split at he
        · cases he
        · exact ⟨h, by assumption⟩
      · rename_i h
        exact absurd he h
    obtain ⟨mn, rfl⟩ : ∃ mn : Nat, most = mn := ⟨most.toNat, by omega⟩
    have hmn : 1 ≤ mn := by omega
    have SR := Asd.mk (wrongP_sorted hw0.1)
    have OR := Asd.mk (wrongP_ok hw0.1)
    have hLL : partsR rows (mn : Int) = partsL rows mn := by unfold partsR; rw [if_pos he, Int.toNat_natCast]
    rw [hLL] at hRL
    have hnl : nl = partsN rows mn + 1 := by
      have h1 := hRL.count (enc := SpanR.enc) (fun _ => rfl) (by omega)
      rw [partsL_len] at h1
      omega
    have hJn : partsN rows mn ≤ n := by
      rw [← N.out]
      unfold partsN
      exact Nat.le_trans (Nat.div_le_self _ _) (by omega)
    have XL := Asd.mk hRL
    have hidx := idx_le (rows := rows) (mn := mn) key
    have NL := Asd.mk hnl
    have hnl2 : nl ≤ 301 := by omega
    have hcl : nl ≤ cl := hRL.cap
    have hii : idx rows mn key < nl := by omega
    generalize hI : idx rows mn key = I at hii
    have HI := Asd.mk hI
    rw [he]
    clear he hw0 hLL hRL hnl hI hidx hJn
    go_wp2_with fail
    go_loopw [9, 32] (fun s9 s32 wr => ∃ (i c : Nat), s9 = .int .i64 c ∧ s32 = .int .i64 i ∧ i ≤ nl ∧ c ≤ 1 ∧ Asd (c = if I < i then 1 else 0) ∧ Asd (Below w.heap.size w wr) ∧ Asd (Rd w.heap.size 39 wr 2 L nl cl (sCells (partsL rows mn)))) (fun _ s32 _ => nl - (intOf s32).toNat)
    case atStart => exact ⟨0, 0, rfl, rfl, by omega, by omega, ⟨by simp⟩, B2, XL⟩
    case round =>
      clear XL
      obtain ⟨i, c, rfl, rfl, hin, hc1, CI, BW, XL⟩ := hrel
      by_cases hlt : i < nl
      · have hil : i < (partsL rows mn).length := by rw [partsL_len]; have := NL.out; omega
        obtain ⟨lb, lo, rfl, _, hil', hcs⟩ := XL.out.at_enc (enc := SpanR.enc) (fun _ => rfl) (by omega) hlt
        have c0 : wr.cell? ⟨lb, lo + i * 2, none⟩ = some (.string (partsL rows mn)[i].from_) := hcs 0 _ rfl
        have c1 : wr.cell? ⟨lb, lo + i * 2 + 1, none⟩ = some (.string (partsL rows mn)[i].to_) := hcs 1 _ rfl
        have hone := Rd.one_ (enc := SpanR.enc) XL.out (fun _ => rfl) hlt hil
        have hP : ∀ k, hasP k (partsL rows mn)[i] = decide (i = idx rows mn k) := fun k => has_part SR.out OR.out hmn k hil
        have hck := check_part SR.out OR.out hmn hil
        obtain ⟨sp, hsp⟩ : ∃ sp, (partsL rows mn)[i] = sp := ⟨_, rfl⟩
        rw [hsp] at c0 c1 hone hP hck
        have SPE : Asd (∀ h : i < (partsL rows mn).length, (partsL rows mn)[i] = sp) := ⟨fun _ => hsp⟩
        clear hcs hsp hil hil'
        have ON := Asd.mk hone
        have HP := Asd.mk hP
        have CK := Asd.mk hck
        have hk1 : i < cl := by omega
        have hk2 : ¬ cl = i := by omega
        have HBD : Asd ((0 : Int) ≤ (i : Int) ∧ (i : Int) ≤ (i : Int) + 1 ∧ (i : Int) + 1 ≤ (cl : Int)) := ⟨by omega⟩
        have hi6 : i ≤ 1000000 := Nat.le_trans hin (Nat.le_trans hnl2 (by decide))
        have hw1 := wrap_succ hi6
        have hw2 := kwrap_succ hi6
        have HW := Asd.mk hw1
        have HW2 := Asd.mk hw2
        clear hone hP hck
        go_wp2_with fail
        have hon : Rd w.heap.size 39 wr 2 (some ⟨lb, lo + i * 2, none⟩) 1 (cl - i) (sCells [sp]) := by simpa [sCells] using ON.out
        refine (Has_calls (base := w.heap.size) (n := 1) (c := cl - i) (l := [sp]) hon one_small key).mono ?_
        clear hon
        rw [show [sp].any (hasP key) = decide (i = I) from by simp only [List.any_cons, List.any_nil, Bool.or_false]; rw [HP.out, HI.out]]
        rintro e w3 ⟨rfl, hb3⟩
        clear hw1 hw2
        have B3 := Asd.mk (BW.out.trans (hb3.mono BW.out.size))
        have X3 := Asd.mk (XL.out.below hb3)
        have ON3 := Asd.mk (ON.out.below hb3)
        clear hb3 c0 c1 XL ON BW
        have hcnt : ∃ c2 : Nat, c2 ≤ 1 ∧ c2 = (if I < i + 1 then 1 else 0) ∧ (i = I → c = 0 ∧ c2 = 1) ∧ (i ≠ I → c2 = c) := by
          refine ⟨if I < i + 1 then 1 else 0, by split <;> omega, rfl, fun h => ?_, fun h => ?_⟩
          · have := CI.out
            rw [this, if_neg (by omega), if_pos (by omega)]
            exact ⟨rfl, rfl⟩
          · rw [CI.out]
            by_cases h2 : I < i
            · rw [if_pos h2, if_pos (by omega)]
            · rw [if_neg h2, if_neg (by omega)]
        obtain ⟨c2, hc2, hc2e, hyes, hno⟩ := hcnt
        have C2 := Asd.mk hc2e
        have HYES := Asd.mk hyes
        have HNO := Asd.mk hno
        clear hc2e hyes hno
        by_cases hiI : i = I
        · obtain ⟨hcz, hcz2⟩ := HYES.out hiI
          subst hcz hcz2
          rw [decide_eq_true hiI]
          subst hiI
          clear HYES HNO
          go_wp2_with fail
          go_loopw [11, 46] (fun s11 s46 wr => ∃ (k m : Nat), s11 = .int .i64 m ∧ s46 = .int .i64 k ∧ k ≤ n ∧ m ≤ k ∧ Asd (m = min k (i * mn + mn) - min k (i * mn)) ∧ Asd (Below w.heap.size w wr) ∧ Asd (Rd w.heap.size 39 wr 2 (some ⟨lb, lo, none⟩) nl cl (sCells (partsL rows mn)))) (fun _ s46 _ => n - (intOf s46).toNat)
          case atStart => exact ⟨0, 0, rfl, rfl, by omega, by omega, ⟨by simp⟩, B3, X3⟩
          case round =>
            clear X3 ON3 B3
            obtain ⟨k, m, rfl, rfl, hkn, hmk, MI, BW, XL⟩ := hrel
            by_cases hlk : k < n
            · have hkl : k < rows.length := by have := N.out; omega
              obtain ⟨rb, ro, rfl, _, _, d0, d1, d2⟩ := (RR.out.below BW.out).row hlk
              have hid := idx_self SR.out (mn := mn) hkl
              generalize rows[k] = y at d0 d1 d2 hid
              have hb : [sp].any (hasP y.key) = decide (i = k / mn) := by simp only [List.any_cons, List.any_nil, Bool.or_false]; rw [HP.out, hid]
              have HB := Asd.mk hb
              have hal : Below wr.heap.size wr (wr.alloc (.cells #[.string y.key, .int .i64 y.stamp, .string y.val] 29)) := (Below.refl _ _).alloc (Nat.le_refl _) _
              have B4 := Asd.mk (BW.out.trans (hal.mono BW.out.size))
              have X4 := Asd.mk (XL.out.below hal)
              have Y4 : Asd (Rd w.heap.size 29 (wr.alloc (.cells #[.string y.key, .int .i64 y.stamp, .string y.val] 29)) 3 (some ⟨wr.heap.size, 0, none⟩) 1 1 (rowCells [y])) := ⟨Rd.new_ rfl rfl⟩
              have hl4 : wr.heap.size < (wr.alloc (.cells #[.string y.key, .int .i64 y.stamp, .string y.val] 29)).heap.size := by simp
              clear hal hid hb hkl
              go_wp2_with fail
              generalize (wr.alloc (.cells #[.string y.key, .int .i64 y.stamp, .string y.val] 29)) = w4 at B4 X4 Y4 hl4 ⊢
              generalize wr.heap.size = yb at Y4 hl4 ⊢
              clear d0 d1 d2
              obtain ⟨e0, e1, e2⟩ := Y4.out.row1
              have hone4 : Rd w.heap.size 39 w4.drew 2 (some ⟨lb, lo + i * 2, none⟩) 1 (cl - i) (sCells [sp]) := by
                have hil4 : i < (partsL rows mn).length := by rw [partsL_len]; have := NL.out; omega
                have h1 := Rd.one_ (enc := SpanR.enc) X4.out (fun _ => rfl) hlt hil4
                have h2 : (partsL rows mn)[i] = sp := SPE.out hil4
                rw [h2] at h1
                exact (by simpa [sCells] using h1.below ((Below.refl _ _).drew))
              have O4 := Asd.mk hone4
              clear hone4
              by_cases hki : i = k / mn
              · have hst := (cnt_step MI.out).1 ((div_in hmn).1 hki)
                have HST := Asd.mk hst
                have HB2 := Asd.mk (HB.out.trans (decide_eq_true hki))
                clear hst hki
                have hbd := HBD.out
                have hw1 := HW.out
                have hw2 := HW2.out
                go_region_with (go_at_call 15; refine (Has_calls (base := w.heap.size) (n := 1) (c := cl - i) (l := [sp]) O4.out one_small y.key).mono ?_; rw [HB2.out]; rintro e w5 ⟨rfl, hb5⟩; have B5 := Asd.mk ((B4.out.drew).trans (hb5.mono B4.out.size)); have X5 := Asd.mk ((X4.out.below ((Below.refl _ _).drew)).below hb5); clear hb5)
                all_goals
                  clear hw1 hw2 hbd
                  go_wp2_with fail
                  go_roundw
                  case measure => simp [intOf]; omega
                  case rel => exact ⟨k + 1, m + 1, by go_num, by go_num, by omega, by omega, HST, B5, X5⟩
              · have hst := (cnt_step MI.out).2 (fun h => hki ((div_in hmn).2 h))
                have HST := Asd.mk hst
                have HB2 := Asd.mk (HB.out.trans (decide_eq_false hki))
                clear hst hki
                have hbd := HBD.out
                have hw1 := HW.out
                have hw2 := HW2.out
                go_region_with (go_at_call 15; refine (Has_calls (base := w.heap.size) (n := 1) (c := cl - i) (l := [sp]) O4.out one_small y.key).mono ?_; rw [HB2.out]; rintro e w5 ⟨rfl, hb5⟩; have B5 := Asd.mk ((B4.out.drew).trans (hb5.mono B4.out.size)); have X5 := Asd.mk ((X4.out.below ((Below.refl _ _).drew)).below hb5); clear hb5)
                all_goals
                  clear hw1 hw2 hbd
                  go_wp2_with fail
                  go_roundw
                  case measure => simp [intOf]; omega
                  case rel => exact ⟨k + 1, m, by go_num, by go_num, by omega, by omega, HST, B5, X5⟩
            · have hkn2 : k = n := by omega
              subst hkn2
              have hmv := MI.out
              have hJ : i + 1 < nl → i * mn + mn ≤ k := by
                intro h
                have h2 := partsN_lt (rows := rows) hmn (show i + 1 ≤ partsN rows mn by have := NL.out; omega)
                rw [Nat.succ_mul, N.out] at h2
                omega
              have hm1 : m ≤ mn := by omega
              have hm2 : i + 1 < nl → m = mn := by intro h; have := hJ h; omega
              obtain ⟨lb', lo', hA', _, hil9, hcs9⟩ := XL.out.at_enc (enc := SpanR.enc) (fun _ => rfl) (by omega) hlt
              cases hA'
              have c0 : wr.cell? ⟨lb, lo + i * 2, none⟩ = some (.string sp.from_) := (hcs9 0 _ rfl).trans (by rw [SPE.out hil9])
              have c1 : wr.cell? ⟨lb, lo + i * 2 + 1, none⟩ = some (.string sp.to_) := (hcs9 1 _ rfl).trans (by rw [SPE.out hil9])
              obtain ⟨g1, g2, g3⟩ := CK.out
              have G := Asd.mk (And.intro g1 (And.intro g2 g3))
              have hgt : ¬ ((mn : Int) < (m : Int)) := by omega
              have KEY2 := Asd.mk KEY.out
              clear hcs9 hmv hJ g1 g2 g3 hil9 hm1
              by_cases hlast : i + 1 < nl
              · have hme := hm2 hlast
                subst hme
                clear hm2
                have hl1 : (i : Int) + 1 < (nl : Int) := by omega
                by_cases hk64 : (key.size : Int) ≤ 64
                · have hw1 := HW.out
                  have hw2 := HW2.out
                  go_wp2_with fail
                  refine (SpanCheck_ok sp G.out.1 G.out.2.1 G.out.2.2 _).mono ?_
                  rintro e w9 ⟨rfl, hb9⟩
                  clear hw1 hw2
                  have B9 := Asd.mk (BW.out.trans (hb9.mono BW.out.size))
                  have X9 := Asd.mk (XL.out.below hb9)
                  clear hb9 c0 c1
                  go_wp2_with fail
                  go_roundw
                  case measure => simp [intOf]; omega
                  case rel => exact ⟨i + 1, 1, by go_num, by go_num, by omega, by omega, C2, B9, X9⟩
                · have hw1 := HW.out
                  have hw2 := HW2.out
                  go_wp2_with fail
                  clear hw1 hw2
                  go_roundw
                  case measure => simp [intOf]; omega
                  case rel => exact ⟨i + 1, 1, by go_num, by go_num, by omega, by omega, C2, BW, XL⟩
              · clear hm2
                have hl1 : ¬ (i : Int) + 1 < (nl : Int) := by omega
                by_cases hk64 : (key.size : Int) ≤ 64
                · have hw1 := HW.out
                  have hw2 := HW2.out
                  go_wp2_with fail
                  refine (SpanCheck_ok sp G.out.1 G.out.2.1 G.out.2.2 _).mono ?_
                  rintro e w9 ⟨rfl, hb9⟩
                  clear hw1 hw2
                  have B9 := Asd.mk (BW.out.trans (hb9.mono BW.out.size))
                  have X9 := Asd.mk (XL.out.below hb9)
                  clear hb9 c0 c1
                  go_wp2_with fail
                  go_roundw
                  case measure => simp [intOf]; omega
                  case rel => exact ⟨i + 1, 1, by go_num, by go_num, by omega, by omega, C2, B9, X9⟩
                · have hw1 := HW.out
                  have hw2 := HW2.out
                  go_wp2_with fail
                  clear hw1 hw2
                  go_roundw
                  case measure => simp [intOf]; omega
                  case rel => exact ⟨i + 1, 1, by go_num, by go_num, by omega, by omega, C2, BW, XL⟩
        · have hcz := HNO.out hiI
          subst hcz
          rw [decide_eq_false hiI]
          clear HYES HNO
          go_wp2_with fail
          go_loopw [11, 46] (fun s11 s46 wr => ∃ (k m : Nat), s11 = .int .i64 m ∧ s46 = .int .i64 k ∧ k ≤ n ∧ m ≤ k ∧ Asd (m = min k (i * mn + mn) - min k (i * mn)) ∧ Asd (Below w.heap.size w wr) ∧ Asd (Rd w.heap.size 39 wr 2 (some ⟨lb, lo, none⟩) nl cl (sCells (partsL rows mn)))) (fun _ s46 _ => n - (intOf s46).toNat)
          case atStart => exact ⟨0, 0, rfl, rfl, by omega, by omega, ⟨by simp⟩, B3, X3⟩
          case round =>
            clear X3 ON3 B3
            obtain ⟨k, m, rfl, rfl, hkn, hmk, MI, BW, XL⟩ := hrel
            by_cases hlk : k < n
            · have hkl : k < rows.length := by have := N.out; omega
              obtain ⟨rb, ro, rfl, _, _, d0, d1, d2⟩ := (RR.out.below BW.out).row hlk
              have hid := idx_self SR.out (mn := mn) hkl
              generalize rows[k] = y at d0 d1 d2 hid
              have hb : [sp].any (hasP y.key) = decide (i = k / mn) := by simp only [List.any_cons, List.any_nil, Bool.or_false]; rw [HP.out, hid]
              have HB := Asd.mk hb
              have hal : Below wr.heap.size wr (wr.alloc (.cells #[.string y.key, .int .i64 y.stamp, .string y.val] 29)) := (Below.refl _ _).alloc (Nat.le_refl _) _
              have B4 := Asd.mk (BW.out.trans (hal.mono BW.out.size))
              have X4 := Asd.mk (XL.out.below hal)
              have Y4 : Asd (Rd w.heap.size 29 (wr.alloc (.cells #[.string y.key, .int .i64 y.stamp, .string y.val] 29)) 3 (some ⟨wr.heap.size, 0, none⟩) 1 1 (rowCells [y])) := ⟨Rd.new_ rfl rfl⟩
              have hl4 : wr.heap.size < (wr.alloc (.cells #[.string y.key, .int .i64 y.stamp, .string y.val] 29)).heap.size := by simp
              clear hal hid hb hkl
              go_wp2_with fail
              generalize (wr.alloc (.cells #[.string y.key, .int .i64 y.stamp, .string y.val] 29)) = w4 at B4 X4 Y4 hl4 ⊢
              generalize wr.heap.size = yb at Y4 hl4 ⊢
              clear d0 d1 d2
              obtain ⟨e0, e1, e2⟩ := Y4.out.row1
              have hone4 : Rd w.heap.size 39 w4.drew 2 (some ⟨lb, lo + i * 2, none⟩) 1 (cl - i) (sCells [sp]) := by
                have hil4 : i < (partsL rows mn).length := by rw [partsL_len]; have := NL.out; omega
                have h1 := Rd.one_ (enc := SpanR.enc) X4.out (fun _ => rfl) hlt hil4
                have h2 : (partsL rows mn)[i] = sp := SPE.out hil4
                rw [h2] at h1
                exact (by simpa [sCells] using h1.below ((Below.refl _ _).drew))
              have O4 := Asd.mk hone4
              clear hone4
              by_cases hki : i = k / mn
              · have hst := (cnt_step MI.out).1 ((div_in hmn).1 hki)
                have HST := Asd.mk hst
                have HB2 := Asd.mk (HB.out.trans (decide_eq_true hki))
                clear hst hki
                have hbd := HBD.out
                have hw1 := HW.out
                have hw2 := HW2.out
                go_region_with (go_at_call 15; refine (Has_calls (base := w.heap.size) (n := 1) (c := cl - i) (l := [sp]) O4.out one_small y.key).mono ?_; rw [HB2.out]; rintro e w5 ⟨rfl, hb5⟩; have B5 := Asd.mk ((B4.out.drew).trans (hb5.mono B4.out.size)); have X5 := Asd.mk ((X4.out.below ((Below.refl _ _).drew)).below hb5); clear hb5)
                all_goals
                  clear hw1 hw2 hbd
                  go_wp2_with fail
                  go_roundw
                  case measure => simp [intOf]; omega
                  case rel => exact ⟨k + 1, m + 1, by go_num, by go_num, by omega, by omega, HST, B5, X5⟩
              · have hst := (cnt_step MI.out).2 (fun h => hki ((div_in hmn).2 h))
                have HST := Asd.mk hst
                have HB2 := Asd.mk (HB.out.trans (decide_eq_false hki))
                clear hst hki
                have hbd := HBD.out
                have hw1 := HW.out
                have hw2 := HW2.out
                go_region_with (go_at_call 15; refine (Has_calls (base := w.heap.size) (n := 1) (c := cl - i) (l := [sp]) O4.out one_small y.key).mono ?_; rw [HB2.out]; rintro e w5 ⟨rfl, hb5⟩; have B5 := Asd.mk ((B4.out.drew).trans (hb5.mono B4.out.size)); have X5 := Asd.mk ((X4.out.below ((Below.refl _ _).drew)).below hb5); clear hb5)
                all_goals
                  clear hw1 hw2 hbd
                  go_wp2_with fail
                  go_roundw
                  case measure => simp [intOf]; omega
                  case rel => exact ⟨k + 1, m, by go_num, by go_num, by omega, by omega, HST, B5, X5⟩
            · have hkn2 : k = n := by omega
              subst hkn2
              have hmv := MI.out
              have hJ : i + 1 < nl → i * mn + mn ≤ k := by
                intro h
                have h2 := partsN_lt (rows := rows) hmn (show i + 1 ≤ partsN rows mn by have := NL.out; omega)
                rw [Nat.succ_mul, N.out] at h2
                omega
              have hm1 : m ≤ mn := by omega
              have hm2 : i + 1 < nl → m = mn := by intro h; have := hJ h; omega
              obtain ⟨lb', lo', hA', _, hil9, hcs9⟩ := XL.out.at_enc (enc := SpanR.enc) (fun _ => rfl) (by omega) hlt
              cases hA'
              have c0 : wr.cell? ⟨lb, lo + i * 2, none⟩ = some (.string sp.from_) := (hcs9 0 _ rfl).trans (by rw [SPE.out hil9])
              have c1 : wr.cell? ⟨lb, lo + i * 2 + 1, none⟩ = some (.string sp.to_) := (hcs9 1 _ rfl).trans (by rw [SPE.out hil9])
              obtain ⟨g1, g2, g3⟩ := CK.out
              have G := Asd.mk (And.intro g1 (And.intro g2 g3))
              have hgt : ¬ ((mn : Int) < (m : Int)) := by omega
              have KEY2 := Asd.mk KEY.out
              clear hcs9 hmv hJ g1 g2 g3 hil9 hm1
              by_cases hlast : i + 1 < nl
              · have hme := hm2 hlast
                subst hme
                clear hm2
                have hl1 : (i : Int) + 1 < (nl : Int) := by omega
                by_cases hk64 : (key.size : Int) ≤ 64
                · have hw1 := HW.out
                  have hw2 := HW2.out
                  go_wp2_with fail
                  refine (SpanCheck_ok sp G.out.1 G.out.2.1 G.out.2.2 _).mono ?_
                  rintro e w9 ⟨rfl, hb9⟩
                  clear hw1 hw2
                  have B9 := Asd.mk (BW.out.trans (hb9.mono BW.out.size))
                  have X9 := Asd.mk (XL.out.below hb9)
                  clear hb9 c0 c1
                  go_wp2_with fail
                  go_roundw
                  case measure => simp [intOf]; omega
                  case rel => exact ⟨i + 1, c2, by go_num, by go_num, by omega, by omega, C2, B9, X9⟩
                · have hw1 := HW.out
                  have hw2 := HW2.out
                  go_wp2_with fail
                  clear hw1 hw2
                  go_roundw
                  case measure => simp [intOf]; omega
                  case rel => exact ⟨i + 1, c2, by go_num, by go_num, by omega, by omega, C2, BW, XL⟩
              · clear hm2
                have hl1 : ¬ (i : Int) + 1 < (nl : Int) := by omega
                by_cases hk64 : (key.size : Int) ≤ 64
                · have hw1 := HW.out
                  have hw2 := HW2.out
                  go_wp2_with fail
                  refine (SpanCheck_ok sp G.out.1 G.out.2.1 G.out.2.2 _).mono ?_
                  rintro e w9 ⟨rfl, hb9⟩
                  clear hw1 hw2
                  have B9 := Asd.mk (BW.out.trans (hb9.mono BW.out.size))
                  have X9 := Asd.mk (XL.out.below hb9)
                  clear hb9 c0 c1
                  go_wp2_with fail
                  go_roundw
                  case measure => simp [intOf]; omega
                  case rel => exact ⟨i + 1, c2, by go_num, by go_num, by omega, by omega, C2, B9, X9⟩
                · have hw1 := HW.out
                  have hw2 := HW2.out
                  go_wp2_with fail
                  clear hw1 hw2
                  go_roundw
                  case measure => simp [intOf]; omega
                  case rel => exact ⟨i + 1, c2, by go_num, by go_num, by omega, by omega, C2, BW, XL⟩
      · have hiv : i = nl := by omega
        subst hiv
        have hc : c = 1 := by rw [CI.out, if_pos hii]
        subst hc
        have hq := covers_q (n := n) (mn := mn) (i := i) (by omega) hmn MOST.out (by rw [NL.out]; unfold partsN; rw [N.out])
        have HQ := Asd.mk hq
        clear hq
        go_wp2_with fail
        · rename_i h
          have := HQ.out.1 h
          go_ret
          exact ⟨by rw [this]; simp, BW.out⟩
        · rename_i h
          have := HQ.out.2 h
          go_ret
          exact ⟨by rw [this]; rfl, BW.out⟩
  · have hpn : partsR rows most = [] := by unfold partsR; rw [if_neg he]
    rw [hpn] at hRL
    have hn0 : nl = 0 := by have := hRL.len; simp [sCells] at this; omega
    subst hn0
    have he1 : (perrP rows most == 0) = false := by simpa using he
    have he2 : (perrP rows most != 0) = true := by simpa using he
    clear hRL hpn he
    generalize perrP rows most = x at *
    go_wp2_with fail
    go_ret
    exact ⟨rfl, B2.out⟩
end Go.Proofs.Ytgiajfgeplekbaa

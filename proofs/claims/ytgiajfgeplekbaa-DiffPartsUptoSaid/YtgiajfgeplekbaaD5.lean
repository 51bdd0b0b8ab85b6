/- diff.wrong: what is wrong with rows. -/
import Derived.Test.YtgiajfgeplekbaaD4
import Derived.Laws.Cover1
set_option linter.unusedVariables false
set_option linter.unusedSimpArgs false
namespace Go.Proofs.Ytgiajfgeplekbaa
open Go.RowKit

def wrongP (l : List Rw) : Int := if (l.any fun r => !rowOk r) = true then 80 else if Sorted l then 0 else 4
theorem take_one (r : Rw) : (takeP [] [r]).1 = if rowOk r then 0 else 80 := by
  have hs : Sorted [r] := List.pairwise_singleton _ _
  unfold takeP
  cases h : rowOk r with
  | true =>
    rw [if_neg (by simp [h]), if_neg (fun a => a hs), if_neg (by simp [mergeP, mState, mStep])]
    simp
  | false => simp [h]

set_option maxHeartbeats 8000000 in
set_option maxRecDepth 100000 in
theorem wrong_calls {base : Nat} {w : World} {B : Option Addr} {n d : Nat} {rows : List Rw} (hr : Rd base 29 w 3 B n d (rowCells rows)) (hn : n ≤ 1000000) (hbs : base ≤ w.heap.size) :
    Calls Try.prog 35 #[.slice B n d] w fun e w' => e = .returned (.int .i64 (wrongP rows)) ∧ Below w.heap.size w w' := by
  have hcnt := hr.count (enc := Rw.enc) (fun _ => rfl) (by omega)
  have hcap := hr.cap
  have R := Asd.mk hr
  have N := Asd.mk hcnt
  generalize hp : wrongP rows = p
  have P := Asd.mk hp
  clear hr hcnt hp
  go_enter Try.func35, Try.ntmps35
  go_wp2_with fail
  go_loopw [9] (fun s9 wr => ∃ k : Nat, s9 = .int .i64 k ∧ k ≤ n ∧ Asd (Below w.heap.size w wr) ∧ Asd (∀ j (h : j < rows.length), j < k → rowOk rows[j] = true)) (fun s9 _ => n - (intOf s9).toNat)
  case atStart => exact ⟨0, rfl, by omega, ⟨Below.refl _ _⟩, ⟨fun j h hj => absurd hj (Nat.not_lt_zero _)⟩⟩
  case round =>
    obtain ⟨k, rfl, hkn, BW, IW⟩ := hrel
    by_cases hlt : k < n
    · have hil : k < rows.length := by have := N.out; omega
      obtain ⟨b, off, rfl, hb, _⟩ := R.out.at_ (by omega)
      have hone := Rd.one_ (enc := Rw.enc) (R.out.below BW.out) (fun _ => rfl) hlt hil
      generalize hy : rows[k] = y at hone
      have Y := Asd.mk hy
      have ON := Asd.mk hone
      have hk1 : k < d := by omega
      have hck : ¬ d = k := by omega
      have hbd : (0 : Int) ≤ (k : Int) ∧ (k : Int) ≤ (k : Int) + 1 ∧ (k : Int) + 1 ≤ (d : Int) := by omega
      have hw2 : IntKind.i64.wrap ((k : Int) + 1) = (k : Int) + 1 := IntWalk.i64_in _ (by omega)
      have hw1 : wrap64 ((k : Int) + 1) = (k : Int) + 1 := by unfold wrap64; omega
      clear hb hy hone
      cases hok : rowOk y with
      | false =>
        have hv : (takeP [] [y]).1 = 80 := by rw [take_one, hok]; rfl
        have hany : (rows.any fun r => !rowOk r) = true := List.any_eq_true.2 ⟨y, by rw [← Y.out]; exact List.getElem_mem hil, by rw [hok]; rfl⟩
        have HV := Asd.mk hv
        have PP := Asd.mk (P.out.symm.trans (by unfold wrongP; rw [if_pos hany]) : p = 80)
        clear hok hv hany
        go_wp2_with fail
        go_region_with (first
          | (go_at_call 51; (refine (New_calls base wr.drew (Nat.le_trans hbs BW.out.size)).mono ?_; rintro e w1 ⟨g, rfl, hT1, hg1, hb1⟩; have hB1 : Below wr.heap.size wr w1 := ((Below.refl wr.heap.size wr).drew).trans hb1; have T1 := Asd.mk hT1; have B1 := Asd.mk hB1; have G1 := Asd.mk hg1; have ON1 := Asd.mk (ON.out.below hB1); clear hT1 hg1 hb1 hB1))
          | (go_at_call 52; (refine (Take_calls T1.out (B := some ⟨b, off + k * 3, none⟩) (n := 1) (d := d - k) (rows := [y]) (by simpa [rowCells] using ON1.out) (by omega)).mono ?_; rintro e w2 ⟨rfl, hg2, _⟩; have B2 := Asd.mk (B1.out.grown hg2 B1.out.size (fun j hj => by injection hj with hj; rw [← hj]; exact G1.out)); rw [HV.out]; clear hg2)))
        all_goals
          go_wp2_with fail
          go_ret
          exact ⟨by rw [PP.out]; rfl, BW.out.trans (B2.out.mono BW.out.size)⟩
      | true =>
        have hv : (takeP [] [y]).1 = 0 := by rw [take_one, hok]; rfl
        have HV := Asd.mk hv
        have OK := Asd.mk hok
        clear hok hv
        go_wp2_with fail
        go_region_with (first
          | (go_at_call 51; (refine (New_calls base wr.drew (Nat.le_trans hbs BW.out.size)).mono ?_; rintro e w1 ⟨g, rfl, hT1, hg1, hb1⟩; have hB1 : Below wr.heap.size wr w1 := ((Below.refl wr.heap.size wr).drew).trans hb1; have T1 := Asd.mk hT1; have B1 := Asd.mk hB1; have G1 := Asd.mk hg1; have ON1 := Asd.mk (ON.out.below hB1); clear hT1 hg1 hb1 hB1))
          | (go_at_call 52; (refine (Take_calls T1.out (B := some ⟨b, off + k * 3, none⟩) (n := 1) (d := d - k) (rows := [y]) (by simpa [rowCells] using ON1.out) (by omega)).mono ?_; rintro e w2 ⟨rfl, hg2, _⟩; have B2 := Asd.mk (B1.out.grown hg2 B1.out.size (fun j hj => by injection hj with hj; rw [← hj]; exact G1.out)); rw [HV.out]; clear hg2)))
        all_goals
          go_wp2_with fail
          go_roundw
          case measure => simp [intOf]; omega
          case rel =>
            refine ⟨k + 1, by go_num, by omega, ⟨BW.out.trans (B2.out.mono BW.out.size)⟩, ⟨fun j h hj => ?_⟩⟩
            rcases Nat.lt_or_ge j k with h1 | h1
            · exact IW.out j h h1
            · obtain rfl : j = k := by omega
              rw [Y.out]; exact OK.out
    · have hany : (rows.any fun r => !rowOk r) = false := by
        rw [List.any_eq_false]
        intro r hr
        obtain ⟨j, hj, rfl⟩ := List.mem_iff_getElem.1 hr
        simp [IW.out j hj (by have := N.out; omega)]
      have PP := Asd.mk (P.out.symm.trans (by unfold wrongP; rw [if_neg (by rw [hany]; simp)]) : p = if Sorted rows then 0 else 4)
      clear hany
      go_wp2_with fail
      go_loopw [25] (fun s25 wr => ∃ k : Nat, s25 = .int .i64 k ∧ k ≤ n ∧ Asd (Below w.heap.size w wr) ∧ Asd (∀ t (h : t + 1 < rows.length), t + 1 < k → klt rows[t].key rows[t + 1].key)) (fun s25 _ => n - (intOf s25).toNat)
      case atStart => exact ⟨0, rfl, by omega, BW, ⟨fun t h hj => absurd hj (by omega)⟩⟩
      case round =>
        obtain ⟨k, rfl, hkn, BW, IW⟩ := hrel
        by_cases hlt : k < n
        · have hil : k < rows.length := by have := N.out; omega
          have hbw := BW.out.size
          obtain ⟨b, off, rfl, hb, _, hcs⟩ := (R.out.below BW.out).at_enc (enc := Rw.enc) (fun _ => rfl) (by omega) hlt
          have c0 : wr.cell? ⟨b, off + k * 3, none⟩ = some (.string rows[k].key) := hcs 0 _ rfl
          have c1 : wr.cell? ⟨b, off + k * 3 + 1, none⟩ = some (.int .i64 rows[k].stamp) := hcs 1 _ rfl
          have c2 : wr.cell? ⟨b, off + k * 3 + 2, none⟩ = some (.string rows[k].val) := hcs 2 _ rfl
          by_cases hk0 : k = 0
          · subst hk0
            generalize rows[0] = y at c0 c1 c2
            simp only [Nat.zero_mul, Nat.add_zero] at c0 c1 c2
            clear hcs
            go_wp2_with fail
            go_quiet (fail)
            have B9 := Asd.mk (BW.out.trans ((((Below.refl wr.heap.size wr).alloc (Nat.le_refl _) (.cells #[.string y.key, .int .i64 y.stamp, .string y.val] 29)).trans (below_dn _ nq)).mono BW.out.size))
            go_wp2_with fail
            go_roundw
            case measure => simp [intOf]; omega
            case rel => exact ⟨1, by go_num, by omega, B9, ⟨fun t h hj => absurd hj (by omega)⟩⟩
          · obtain ⟨b', off', hA', _, hmr, hcm⟩ := (R.out.below BW.out).at_enc (enc := Rw.enc) (fun _ => rfl) (by omega) (i := k - 1) (by omega)
            cases hA'
            have d0 : wr.cell? ⟨b, off + (k - 1) * 3, none⟩ = some (.string rows[k - 1].key) := hcm 0 _ rfl
            have hkp : (0 : Int) < (k : Int) := by omega
            have hkp0 : 0 < k := by omega
            have hd1 : decide ((0 : Int) < (k : Int)) = true := decide_eq_true hkp
            have hd2 : decide (0 < k) = true := decide_eq_true hkp0
            obtain ⟨m, hm⟩ : ∃ m, m + 1 = k := ⟨k - 1, by omega⟩
            have w1 : wrap64 ((k : Int) - 1) = (m : Int) := by unfold wrap64; omega
            have hmq : m < n := by omega
            have hkn1 : k - 1 < n := by omega
            have hl2 := less_eq rows[k - 1].key rows[k].key
            have hadj : ∀ t (h : t + 1 < rows.length), t + 1 < k + 1 → klt rows[k - 1].key rows[k].key → klt rows[t].key rows[t + 1].key := fun t h hj hk => by
              rcases Nat.lt_or_ge (t + 1) k with h1 | h1
              · exact IW.out t h h1
              · have e1 : t = k - 1 := by omega
                subst e1
                have e2 : k - 1 + 1 = k := by omega
                simpa [e2] using hk
            have hnot : ¬ klt rows[k - 1].key rows[k].key → ¬ Sorted rows := fun hk hs => hk (List.pairwise_iff_getElem.1 hs (k - 1) k hmr hil (by omega))
            have ADJ := Asd.mk hadj
            have NOT := Asd.mk hnot
            clear hadj hnot
            generalize rows[k] = y at c0 c1 c2 hl2 ADJ NOT
            generalize rows[k - 1] = z at d0 hl2 ADJ NOT
            clear hcs hcm hm
            by_cases hz : klt z.key y.key
            · have hls : Op.bytesLess z.key.toList y.key.toList = true := by rw [hl2]; exact decide_eq_true hz
              have HZ := Asd.mk hz
              clear hl2 hz
              go_wp2_with fail
              go_quiet (fail)
              have B9 := Asd.mk (BW.out.trans ((((Below.refl wr.heap.size wr).alloc (Nat.le_refl _) (.cells #[.string y.key, .int .i64 y.stamp, .string y.val] 29)).trans (below_dn _ nq)).mono BW.out.size))
              go_wp2_with fail
              go_roundw
              case measure => simp [intOf]; omega
              case rel => exact ⟨k + 1, by go_num, by omega, B9, ⟨fun t h hj => ADJ.out t h hj HZ.out⟩⟩
            · have hls : Op.bytesLess z.key.toList y.key.toList = false := by rw [hl2]; exact decide_eq_false hz
              have PP2 := Asd.mk (PP.out.trans (if_neg (NOT.out hz)))
              clear hl2 hz
              go_wp2_with fail
              go_quiet (fail)
              have B9 := Asd.mk (BW.out.trans ((((Below.refl wr.heap.size wr).alloc (Nat.le_refl _) (.cells #[.string y.key, .int .i64 y.stamp, .string y.val] 29)).trans (below_dn _ nq)).mono BW.out.size))
              go_wp2_with fail
              go_ret
              exact ⟨by rw [PP2.out]; rfl, B9.out⟩
        · have PP2 := Asd.mk (PP.out.trans (if_pos (sorted_adj fun t h => IW.out t h (by have := N.out; omega))))
          go_wp2_with fail
          go_ret
          exact ⟨by rw [PP2.out]; rfl, BW.out⟩
end Go.Proofs.Ytgiajfgeplekbaa

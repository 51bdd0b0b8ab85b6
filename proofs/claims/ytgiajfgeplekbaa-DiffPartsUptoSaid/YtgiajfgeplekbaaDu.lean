/- Unlike: the places at which two lists of digests are unlike, of both. -/
import Derived.Test.YtgiajfgeplekbaaD11
import Derived.Test.YtgiajfgeplekbaaD9i
set_option linter.unusedVariables false
set_option linter.unusedSimpArgs false
namespace Go.Proofs.Ytgiajfgeplekbaa
open Go.RowKit

def uEnc (x : Int) : List Value := [.int .u64 x]
def iCells (l : List Int) : List Value := l.flatMap iEnc
theorem elt_int : Elt Try.prog 42 3 1 8 := Elt.mk' Try.underlying42 (z := .int .i64 0) (by kernel_rfl) rfl (by omega)
theorem elt_u64 : Elt Try.prog 41 49 1 8 := Elt.mk' Try.underlying41 (z := .int .u64 0) (by kernel_rfl) rfl (by omega)
theorem int_one (l : List Int) : ∀ u ∈ iCells l, u.oneCell' = true := by
  intro u hu
  unfold iCells at hu
  obtain ⟨r, _, hr⟩ := List.mem_flatMap.1 hu
  simp only [iEnc, List.mem_cons, List.not_mem_nil, or_false] at hr
  subst hr
  rfl
theorem u64_one (l : List Int) : ∀ u ∈ l.flatMap uEnc, u.oneCell' = true := by
  intro u hu
  obtain ⟨r, _, hr⟩ := List.mem_flatMap.1 hu
  simp only [uEnc, List.mem_cons, List.not_mem_nil, or_false] at hr
  subst hr
  rfl
def unlikeP (a b : List Int) (k : Nat) : List Int := ((List.range k).filter fun i => decide (a.getD i 0 ≠ b.getD i 0)).map Int.ofNat
theorem unlikeP_snoc (a b : List Int) (k : Nat) (h1 : k < a.length) (h2 : k < b.length) : unlikeP a b (k + 1) = unlikeP a b k ++ (if a[k] = b[k] then [] else [(k : Int)]) := by
  unfold unlikeP
  rw [List.range_succ, List.filter_append, List.map_append]
  congr 1
  by_cases h : a[k] = b[k]
  · simp [List.getD_eq_getElem?_getD, List.getElem?_eq_getElem h1, List.getElem?_eq_getElem h2, h]
  · simp [List.getD_eq_getElem?_getD, List.getElem?_eq_getElem h1, List.getElem?_eq_getElem h2, h]
def uerrP (a b : List Int) : Int := if a.length = b.length then 0 else 4
def unlikeR (a b : List Int) : List Int := if uerrP a b = 0 then unlikeP a b a.length else []
def UnlikePost (w : World) (a b : List Int) (e : Ending) (w' : World) : Prop :=
  ∃ (P : Option Addr) (np cp : Nat), e = .returned (.tuple #[.slice P np cp, .int .i64 (uerrP a b)]) ∧ Below w.heap.size w w' ∧ w'.ownsRow w.heap.size 3 1 (.slice P np cp) np (iCells (unlikeR a b))

set_option maxHeartbeats 4000000 in
set_option maxRecDepth 100000 in
theorem Unlike_calls {base : Nat} {w : World} {A B : Option Addr} {n c m d : Nat} {a b : List Int} (ha : Rd base 49 w 1 A n c (a.flatMap uEnc)) (hb : Rd base 49 w 1 B m d (b.flatMap uEnc)) (hn : n * 8 ≤ 140737488355328) :
    Calls Try.prog 17 #[.slice A n c, .slice B m d] w (UnlikePost w a b) := by
  have hcn := ha.count (enc := uEnc) (fun _ => rfl) (by omega)
  have hcm := hb.count (enc := uEnc) (fun _ => rfl) (by omega)
  have RA := Asd.mk ha
  have RB := Asd.mk hb
  have NA := Asd.mk hcn
  have NB := Asd.mk hcm
  by_cases hnm : n = m
  · subst hnm
    have he : uerrP a b = 0 := by unfold uerrP; rw [if_pos (by omega)]
    have HE := Asd.mk he
    clear ha hb hcn hcm he
    go_enter Try.func17, Try.ntmps17
    go_wp2_with fail
    go_loopw [6, 15] (fun s6 s7 wr => ∃ (k np cp : Nat) (P : Option Addr), s6 = .slice P np cp ∧ s7 = .int .i64 k ∧ k ≤ n ∧ np ≤ k ∧ Asd (Below w.heap.size w wr) ∧ Asd (wr.ownsRow w.heap.size 3 1 (.slice P np cp) np (iCells (unlikeP a b k)))) (fun _ s7 _ => n - (intOf s7).toNat)
    case atStart => exact ⟨0, 0, 0, none, rfl, rfl, by omega, by omega, ⟨Below.refl _ _⟩, ⟨World.ownsRow_nil _ _ _ _⟩⟩
    case round =>
      obtain ⟨k, np, cp, P, rfl, rfl, hk, hnp, BW, OW⟩ := hrel
      by_cases hlt : k < n
      · obtain ⟨ab, ao, rfl, _, hia, hcs⟩ := (RA.out.below BW.out).at_enc (enc := uEnc) (fun _ => rfl) (by omega) hlt
        obtain ⟨bb, bo, rfl, _, hib, hds⟩ := (RB.out.below BW.out).at_enc (enc := uEnc) (fun _ => rfl) (by omega) hlt
        have c0 : wr.cell? ⟨ab, ao + k, none⟩ = some (.int .u64 a[k]) := by simpa using hcs 0 _ rfl
        have d0 : wr.cell? ⟨bb, bo + k, none⟩ = some (.int .u64 b[k]) := by simpa using hds 0 _ rfl
        have hsn := unlikeP_snoc a b k hia hib
        have SN := Asd.mk hsn
        clear hcs hds hsn
        by_cases hxy : a[k] = b[k]
        · have EQ := Asd.mk hxy
          rw [hxy] at c0
          generalize b[k] = y at c0 d0
          clear hxy
          go_wp2_with fail
          go_quiet (fail)
          have hdn := below_dn (B := wr.heap.size) wr nq
          have B7 := Asd.mk (BW.out.trans (hdn.mono BW.out.size))
          have O7 := Asd.mk (OW.out.kept (gb_below hdn none) (by cases (Value.slice P np cp).ownBlock <;> simp))
          clear hdn
          generalize wr.drewN nq = w7 at *
          go_wp2_with fail
          go_roundw
          case measure => simp [intOf]; omega
          case rel =>
            have O9 := O7.out
            rw [show unlikeP a b k = unlikeP a b (k + 1) from by rw [SN.out, if_pos EQ.out]; simp] at O9
            exact ⟨k + 1, np, cp, P, rfl, by go_num, by omega, by omega, B7, ⟨O9⟩⟩
        · have NE := Asd.mk hxy
          generalize a[k] = x at c0 hxy
          generalize b[k] = y at d0 hxy
          have q1 : (x == y) = false := by simpa using hxy
          clear hxy
          go_wp2_with fail
          go_quiet (fail)
          have hdn := below_dn (B := wr.heap.size) wr nq
          have B7 := Asd.mk (BW.out.trans (hdn.mono BW.out.size))
          have O7 := Asd.mk (OW.out.kept (gb_below hdn none) (by cases (Value.slice P np cp).ownBlock <;> simp))
          clear hdn
          generalize wr.drewN nq = w7 at *
          go_wp2_with (at_builtin; refine wpList_append_mine (base := base) (own := w.heap.size) (n := np) (m := 1) (v := .slice P np cp) (xs := iCells (unlikeP a b k)) (ys := iCells [(k : Int)]) rfl (.tmp 27) (.tmp 29) 42 rfl elt_int rfl rfl (O7.out.alloc _) (Rd.new_ rfl rfl) (int_one _) (by unfold maxLen; omega) (by omega) (Nat.le_trans B7.out.size (by simp)) ?_; intro v8 w8 O8' G8'; obtain ⟨P8, c8, rfl, _⟩ := Rd.of_own (base := base) O8'; have O8 := Asd.mk O8'; have B8 := Asd.mk ((B7.out.alloc B7.out.size (.cells #[.int .i64 (k : Int)] 3)).grown G8' (Nat.le_trans B7.out.size (by simp)) (fun j hj => (O7.out.lt j hj).1)); clear O8' G8')
          go_roundw
          case measure => simp [intOf]; omega
          case rel =>
            have hre : iCells (unlikeP a b k) ++ iCells [(k : Int)] = iCells (unlikeP a b (k + 1)) := by rw [SN.out, if_neg NE.out]; simp [iCells]
            have O9 := O8.out
            rw [hre] at O9
            exact ⟨k + 1, np + 1, c8, P8, rfl, by go_num, by omega, by omega, B8, ⟨O9⟩⟩
      · obtain rfl : k = n := by omega
        go_wp2_with fail
        go_ret2
        refine ⟨P, np, cp, by rw [HE.out]; rfl, BW.out, ?_⟩
        unfold unlikeR
        rw [if_pos HE.out, NA.out]
        exact OW.out
  · have he : uerrP a b = 4 := by unfold uerrP; rw [if_neg (by omega)]
    have HE := Asd.mk he
    have hnm' : ((n : Int) == (m : Int)) = false := by rw [beq_eq_false_iff_ne]; omega
    have hnm'' : ((n : Int) != (m : Int)) = true := by rw [bne_iff_ne]; omega
    clear ha hb hcn hcm he
    go_enter Try.func17, Try.ntmps17
    go_wp2_with fail
    go_ret2
    refine ⟨none, 0, 0, by rw [HE.out]; rfl, Below.refl _ _, ?_⟩
    unfold unlikeR
    rw [HE.out, if_neg (by omega)]
    exact World.ownsRow_nil _ _ _ _

set_option maxHeartbeats 4000000 in
set_option maxRecDepth 100000 in
theorem RefUnlike_calls {base : Nat} {w : World} {A B : Option Addr} {n c m d : Nat} {a b : List Int} (ha : Rd base 49 w 1 A n c (a.flatMap uEnc)) (hb : Rd base 49 w 1 B m d (b.flatMap uEnc)) (hn : n * 8 ≤ 140737488355328) :
    Calls Try.prog 18 #[.slice A n c, .slice B m d] w (UnlikePost w a b) := by
  have hcn := ha.count (enc := uEnc) (fun _ => rfl) (by omega)
  have hcm := hb.count (enc := uEnc) (fun _ => rfl) (by omega)
  have RA := Asd.mk ha
  have RB := Asd.mk hb
  have NA := Asd.mk hcn
  have NB := Asd.mk hcm
  by_cases hnm : n = m
  · subst hnm
    have he : uerrP a b = 0 := by unfold uerrP; rw [if_pos (by omega)]
    have HE := Asd.mk he
    clear ha hb hcn hcm he
    go_enter Try.func18, Try.ntmps18
    go_wp2_with fail
    go_loopw [6, 7] (fun s6 s7 wr => ∃ (k np cp : Nat) (P : Option Addr), s6 = .slice P np cp ∧ s7 = .int .i64 k ∧ k ≤ n ∧ np ≤ k ∧ Asd (Below w.heap.size w wr) ∧ Asd (wr.ownsRow w.heap.size 3 1 (.slice P np cp) np (iCells (unlikeP a b k)))) (fun _ s7 _ => n - (intOf s7).toNat)
    case atStart => exact ⟨0, 0, 0, none, rfl, rfl, by omega, by omega, ⟨Below.refl _ _⟩, ⟨World.ownsRow_nil _ _ _ _⟩⟩
    case round =>
      obtain ⟨k, np, cp, P, rfl, rfl, hk, hnp, BW, OW⟩ := hrel
      by_cases hlt : k < n
      · obtain ⟨ab, ao, rfl, _, hia, hcs⟩ := (RA.out.below BW.out).at_enc (enc := uEnc) (fun _ => rfl) (by omega) hlt
        obtain ⟨bb, bo, rfl, _, hib, hds⟩ := (RB.out.below BW.out).at_enc (enc := uEnc) (fun _ => rfl) (by omega) hlt
        have c0 : wr.cell? ⟨ab, ao + k, none⟩ = some (.int .u64 a[k]) := by simpa using hcs 0 _ rfl
        have d0 : wr.cell? ⟨bb, bo + k, none⟩ = some (.int .u64 b[k]) := by simpa using hds 0 _ rfl
        have hsn := unlikeP_snoc a b k hia hib
        have SN := Asd.mk hsn
        clear hcs hds hsn
        by_cases hxy : a[k] = b[k]
        · have EQ := Asd.mk hxy
          rw [hxy] at c0
          generalize b[k] = y at c0 d0
          clear hxy
          go_wp2_with fail
          go_quiet (fail)
          have hdn := below_dn (B := wr.heap.size) wr nq
          have B7 := Asd.mk (BW.out.trans (hdn.mono BW.out.size))
          have O7 := Asd.mk (OW.out.kept (gb_below hdn none) (by cases (Value.slice P np cp).ownBlock <;> simp))
          clear hdn
          generalize wr.drewN nq = w7 at *
          go_wp2_with fail
          go_roundw
          case measure => simp [intOf]; omega
          case rel =>
            have O9 := O7.out
            rw [show unlikeP a b k = unlikeP a b (k + 1) from by rw [SN.out, if_pos EQ.out]; simp] at O9
            exact ⟨k + 1, np, cp, P, rfl, by go_num, by omega, by omega, B7, ⟨O9⟩⟩
        · have NE := Asd.mk hxy
          generalize a[k] = x at c0 hxy
          generalize b[k] = y at d0 hxy
          have q1 : (x == y) = false := by simpa using hxy
          clear hxy
          go_wp2_with fail
          go_quiet (fail)
          have hdn := below_dn (B := wr.heap.size) wr nq
          have B7 := Asd.mk (BW.out.trans (hdn.mono BW.out.size))
          have O7 := Asd.mk (OW.out.kept (gb_below hdn none) (by cases (Value.slice P np cp).ownBlock <;> simp))
          clear hdn
          generalize wr.drewN nq = w7 at *
          go_wp2_with (at_builtin; refine wpList_append_mine (base := base) (own := w.heap.size) (n := np) (m := 1) (v := .slice P np cp) (xs := iCells (unlikeP a b k)) (ys := iCells [(k : Int)]) rfl (.tmp 28) (.tmp 30) 42 rfl elt_int rfl rfl (O7.out.alloc _) (Rd.new_ rfl rfl) (int_one _) (by unfold maxLen; omega) (by omega) (Nat.le_trans B7.out.size (by simp)) ?_; intro v8 w8 O8' G8'; obtain ⟨P8, c8, rfl, _⟩ := Rd.of_own (base := base) O8'; have O8 := Asd.mk O8'; have B8 := Asd.mk ((B7.out.alloc B7.out.size (.cells #[.int .i64 (k : Int)] 3)).grown G8' (Nat.le_trans B7.out.size (by simp)) (fun j hj => (O7.out.lt j hj).1)); clear O8' G8')
          go_roundw
          case measure => simp [intOf]; omega
          case rel =>
            have hre : iCells (unlikeP a b k) ++ iCells [(k : Int)] = iCells (unlikeP a b (k + 1)) := by rw [SN.out, if_neg NE.out]; simp [iCells]
            have O9 := O8.out
            rw [hre] at O9
            exact ⟨k + 1, np + 1, c8, P8, rfl, by go_num, by omega, by omega, B8, ⟨O9⟩⟩
      · obtain rfl : k = n := by omega
        go_wp2_with fail
        go_ret2
        refine ⟨P, np, cp, by rw [HE.out]; rfl, BW.out, ?_⟩
        unfold unlikeR
        rw [if_pos HE.out, NA.out]
        exact OW.out
  · have he : uerrP a b = 4 := by unfold uerrP; rw [if_neg (by omega)]
    have HE := Asd.mk he
    have hnm' : ((n : Int) == (m : Int)) = false := by rw [beq_eq_false_iff_ne]; omega
    have hnm'' : ((n : Int) != (m : Int)) = true := by rw [bne_iff_ne]; omega
    clear ha hb hcn hcm he
    go_enter Try.func18, Try.ntmps18
    go_wp2_with fail
    go_ret2
    refine ⟨none, 0, 0, by rw [HE.out]; rfl, Below.refl _ _, ?_⟩
    unfold unlikeR
    rw [HE.out, if_neg (by omega)]
    exact World.ownsRow_nil _ _ _ _

set_option maxHeartbeats 4000000 in
set_option maxRecDepth 100000 in
theorem Unlike_walk {w : World} {A B : Option Addr} {n c m d : Nat} {a b : List Int} (ha : Rd w.heap.size 49 w 1 A n c (a.flatMap uEnc)) (hb : Rd w.heap.size 49 w 1 B m d (b.flatMap uEnc)) (hn : n * 8 ≤ 140737488355328) (hm : m * 8 ≤ 140737488355328) :
    Calls Try.prog 5 #[.slice A n c, .slice B m d] w fun e w' => e = .returned (.bool true) ∧ Below w.heap.size w w' := by
  have RA := Asd.mk ha
  have RB := Asd.mk hb
  clear ha hb
  go_enter Try.func5, Try.ntmps5
  go_wp2_with (first
    | (at_builtin; refine wpList_append_full (base := w.heap.size) (n := 0) (c := 0) (m := n) (xs := []) (ys := a.flatMap uEnc) rfl (.tmp 10) (.tmp 11) 41 rfl elt_u64 rfl rfl (Rd.empty_ _ (fun h => by cases h)) (RA.out.alloc _) (by omega) (u64_one _) (by unfold maxLen; omega) (by omega) ?_; intro A1 c1 w1 F1; have B1 := Asd.mk (((Below.refl w.heap.size w).alloc (Nat.le_refl _) (.cells #[] 49)).trans (F1.below.mono (by simp))); have R1 := Asd.mk F1.rd; clear F1)
    | (at_builtin; refine wpList_append_full (base := w.heap.size) (n := 0) (c := 0) (m := m) (xs := []) (ys := b.flatMap uEnc) rfl (.tmp 13) (.tmp 14) 41 rfl elt_u64 rfl rfl (Rd.empty_ _ (fun h => by cases h)) ((RB.out.below B1.out).alloc _) (by omega) (u64_one _) (by unfold maxLen; omega) (by omega) ?_; intro A2 c2 w2 F2; have B2 := Asd.mk ((B1.out.alloc B1.out.size (.cells #[] 49)).trans (F2.below.mono (by have := B1.out.size; simp; omega))); have R1' := Asd.mk ((R1.out.alloc (.cells #[] 49)).below F2.below); have R2 := Asd.mk F2.rd; clear F2))
  have r1 := R1'.out
  have r2 := R2.out
  rw [Nat.zero_add, List.nil_append] at r1 r2
  refine (Unlike_calls r1 r2 hn).mono ?_
  clear r1 r2
  rintro e w3 ⟨P, np, cp, rfl, hb3, hP⟩
  have B3 := Asd.mk (B2.out.trans (hb3.mono B2.out.size))
  obtain ⟨P', cp', e1, hRP⟩ := Rd.of_own (base := w.heap.size) hP
  cases e1
  have X3 := Asd.mk hRP
  clear hb3 hP hRP
  go_wp2_with fail
  refine (RefUnlike_calls (RA.out.below B3.out) (RB.out.below B3.out) hn).mono ?_
  rintro e w4 ⟨Q, nq, cq, rfl, hb4, hQ⟩
  have B4 := Asd.mk (B3.out.trans (hb4.mono B3.out.size))
  have X4 := Asd.mk (X3.out.below hb4)
  obtain ⟨Q', cq', e1, hRQ⟩ := Rd.of_own (base := w.heap.size) hQ
  cases e1
  have Y4 := Asd.mk hRQ
  have hnp : np ≤ n := by
    have h1 := X4.out.len
    have h2 : (iCells (unlikeR a b)).length = (unlikeR a b).length * 1 := flat_len iEnc 1 (fun _ => rfl) _
    have h3 : (unlikeR a b).length ≤ a.length := by
      unfold unlikeR
      split
      · unfold unlikeP
        rw [List.length_map]
        exact Nat.le_trans (List.length_filter_le _ _) (by simp)
      · simp
    have h4 := RA.out.count (enc := uEnc) (fun _ => rfl) (by omega)
    omega
  clear hb4 hQ hRQ
  go_wp2_with fail
  refine (SameInts_calls (l := unlikeR a b) (r := unlikeR a b) X4.out Y4.out (by omega)).mono ?_
  rintro e w5 ⟨rfl, q5, hq5⟩
  have B5 := Asd.mk (B4.out.trans ((hq5 ▸ below_dn _ _ : Below w4.heap.size w4 w5).mono B4.out.size))
  clear hq5
  rw [decide_eq_true rfl]
  generalize uerrP a b = x
  go_wp2_with fail
  refine (works_calls _).mono ?_
  rintro e w6 ⟨rfl, hb6⟩
  have B6 := Asd.mk (B5.out.trans (hb6.mono B5.out.size))
  clear hb6
  go_wp2_with fail
  go_ret
  exact ⟨rfl, B6.out⟩
end Go.Proofs.Ytgiajfgeplekbaa

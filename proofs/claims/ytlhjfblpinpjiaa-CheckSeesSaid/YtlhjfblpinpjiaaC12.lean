/- The document's Rows. The book: the same numbers; numbers lent and kept. -/
import Derived.Test.YtlhjfblpinpjiaaC10
set_option linter.unusedVariables false
set_option linter.unusedSimpArgs false
namespace Go.Proofs.Ytlhjfblpinpjiaa
open Go.RowKit
open Go.RowKit Go.Maps

theorem judgeP_zero {hs : List CallR} {os : List Int} (h : judgeP hs os = (0, 0)) : formP hs os = (0, 0) ∧ firstI (agBad (callsOf hs os)) (callsOf hs os).length = none ∧ firstI (badAt (callsOf hs os)) (callsOf hs os).length = none := by
  by_cases hz : formP hs os = (0, 0)
  · refine ⟨hz, ?_⟩
    cases h2 : firstI (agBad (callsOf hs os)) (callsOf hs os).length with
    | some i => rw [judgeP_ag hz h2] at h; simp at h
    | none =>
      cases h3 : firstI (badAt (callsOf hs os)) (callsOf hs os).length with
      | some i => rw [judgeP_bad hz h2 h3] at h; simp at h
      | none => exact ⟨rfl, rfl⟩
  · rw [judgeP_form hz] at h; exact absurd h hz
theorem judgeP_code {hs : List CallR} {os : List Int} (h : judgeP hs os ≠ (0, 0)) : (judgeP hs os).2 ≠ 0 := by
  by_cases hz : formP hs os = (0, 0)
  · cases h2 : firstI (agBad (callsOf hs os)) (callsOf hs os).length with
    | some i => rw [judgeP_ag hz h2]; simp
    | none =>
      cases h3 : firstI (badAt (callsOf hs os)) (callsOf hs os).length with
      | some i => rw [judgeP_bad hz h2 h3]; simp
      | none => exact absurd (judgeP_ok hz h2 h3) h
  · rw [judgeP_form hz]; exact formP_code hz

set_option maxHeartbeats 16000000 in
set_option maxRecDepth 100000 in
theorem RRows_calls {base : Nat} {w : World} {A B : Option Addr} {n c m d : Nat} {hs : List CallR} {os : List Int} (hh : Hist base w A n c hs) (ho : Ints base w B m d os) (hbs : base ≤ w.heap.size) :
    Calls Try.prog 19 #[.slice A n c, .slice B m d] w (RowsPost base w hs os) := by
  have JC : Asd (∀ W, Below w.heap.size w W → Calls Try.prog 17 #[.slice A n c, .slice B m d] W fun e w' => e = .returned (.agg #[.int .i64 (judgeP hs os).1, .int .i64 (judgeP hs os).2]) ∧ Below W.heap.size W w') :=
    ⟨fun W hW => RJudge_calls (hh.below hW) (ho.below hW) (Nat.le_trans hbs hW.size)⟩
  have PC : Asd (AllIn hs os → ∀ W, Below w.heap.size w W → Calls Try.prog 38 #[.slice A n c, .slice B m d] W (RPlayPost base W (firstI (badAt (callsOf hs os)) (callsOf hs os).length) (rowsP0 (callsOf hs os)))) :=
    ⟨fun hai W hW => RPlay_calls (hh.below hW) (ho.below hW) hai (Nat.le_trans hbs hW.size)⟩
  clear hh ho
  have FS := Asd.mk (FB.start w)
  by_cases hz : judgeP hs os = (0, 0)
  · have HZ := Asd.mk hz
    have LZ := Asd.mk (leftP_ok hz)
    have PC2 := Asd.mk (PC.out (formP_allin (judgeP_zero hz).1))
    have NB := Asd.mk (judgeP_zero hz).2.2
    rw [hz] at JC
    simp only at JC
    clear hz PC
    go_enter Try.func19, Try.ntmps19
    go_wp2_with fail
    refine (JC.out _ FS.out.below).mono ?_
    rintro e w1 ⟨rfl, hb1⟩
    have F1 := Asd.mk (FS.out.next hb1)
    have F2 := Asd.mk (F1.out.next ((Below.refl w1.heap.size w1).alloc (Nat.le_refl _) (.cells #[.int .i64 0, .int .i64 0] 35)))
    clear hb1
    go_wp2_with fail
    refine (PC2.out _ F2.out.below).mono ?_
    rintro e w3 ⟨hb3, _, hn3⟩
    obtain ⟨g, A', c', rfl, hT⟩ := hn3 NB.out
    have F3 := Asd.mk (F2.out.next hb3)
    have hal := (Below.refl w3.heap.size w3).alloc (Nat.le_refl _) (.cells #[.int .i64 0, .int .i64 0] 35)
    have F4 := Asd.mk (F3.out.next hal)
    have T3 := Asd.mk hT
    have hgl := hT.lt
    have tc := hT.cell
    clear hb3 hn3 hT hal
    have f0 := F4.out.f0
    have f1 := F4.out.f1
    have ff := F4.out.fr
    have fl := F4.out.lt
    have f0' := F3.out.f0
    have f1' := F3.out.f1
    have ff' := F3.out.fr
    have fl' := F3.out.lt
    go_wp2_with fail
    refine bodyPost_ret (v := .tuple #[.slice A' (rowsP0 (callsOf hs os)).length c', .agg #[.int .i64 0, .int .i64 0]]) (by simp [results, Try.results19, go_sem, f0, f1, ff, fl, f0', f1', ff', fl']) rfl ?_
    refine ⟨by repeat (first | exact F3.out.below | refine Below.drew ?_ | refine Below.setCell ?_ (by simp) _ | refine Below.alloc ?_ (by simp; omega) _), A', c', by rw [HZ.out, LZ.out], ?_⟩
    rw [LZ.out]
    have hI : IsT w3 w.heap.size 35 := ⟨_, _, F3.out.blk⟩
    exact ((T3.out.rd.set (p := ⟨w.heap.size, 0, none⟩) hI (by decide) hbs _).set (p := ⟨w.heap.size, 1, none⟩) (hI.set _ _) (by decide) hbs _).alloc _
  · have LZ := Asd.mk (leftP_no hz)
    have hc := judgeP_code hz
    generalize hfa : (judgeP hs os).1 = fa at JC
    generalize hfc : (judgeP hs os).2 = fc at JC hc
    have FA := Asd.mk hfa
    have FC := Asd.mk hfc
    have hcb : (fc == 0) = false := by simpa using hc
    have hcb2 : (fc != 0) = true := by simp [bne, hcb]
    clear hfa hfc hz PC
    go_enter Try.func19, Try.ntmps19
    go_wp2_with fail
    refine (JC.out _ FS.out.below).mono ?_
    rintro e w1 ⟨rfl, hb1⟩
    have F1 := Asd.mk (FS.out.next hb1)
    have F2 := Asd.mk (F1.out.next ((Below.refl w1.heap.size w1).alloc (Nat.le_refl _) (.cells #[.int .i64 fa, .int .i64 fc] 35)))
    obtain ⟨x0, x1, x2⟩ := fault_cells (heap_alloc_new w1 (.cells #[.int .i64 fa, .int .i64 fc] 35))
    clear hb1
    have f0 := F2.out.f0
    have f1 := F2.out.f1
    have ff := F2.out.fr
    have fl := F2.out.lt
    go_wp2_with fail
    go_region
    go_wp2_with fail
    refine bodyPost_ret (v := .tuple #[.slice none 0 0, .agg #[.int .i64 fa, .int .i64 fc]]) (by simp [results, Try.results19, go_sem, f0, f1, ff, fl]) rfl ?_
    exact ⟨by repeat (first | exact F2.out.below | refine Below.drew ?_ | refine Below.setCell ?_ (by simp) _ | refine Below.alloc ?_ (by simp; omega) _), none, 0, by rw [LZ.out, FA.out, FC.out]; rfl, by rw [LZ.out]; exact Rd.none_⟩


set_option maxHeartbeats 2000000 in
theorem SameInts_calls {base : Nat} {w : World} {A B : Option Addr} {n c m d : Nat} {l r : List Int} (ha : Rd base 3 w 1 A n c (l.flatMap intEnc)) (hb : Rd base 3 w 1 B m d (r.flatMap intEnc)) (hbig : n ≤ 140737488355328) :
    Calls Try.prog 11 #[.slice A n c, .slice B m d] w fun e w' => e = .returned (.bool (decide (l = r))) ∧ ∃ q, w' = w.drewN q := by
  have hl := ha.count (enc := intEnc) (fun _ => rfl) (by omega)
  have hr := hb.count (enc := intEnc) (fun _ => rfl) (by omega)
  have RA := Asd.mk ha
  have RB := Asd.mk hb
  clear ha hb
  by_cases hnm : n = m
  · subst hnm
    have HL := Asd.mk hl
    have HR := Asd.mk hr
    clear hl hr
    go_enter Try.func11, Try.ntmps11
    go_wp2
    go_loopw [5] (fun s5 wr => ∃ k : Nat, s5 = .int .i64 k ∧ k ≤ n ∧ Asd (∃ q, wr = w.drewN q) ∧ Asd (l.take k = r.take k)) (fun s5 _ => n - (intOf s5).toNat)
    case atStart => exact ⟨0, rfl, Nat.zero_le _, ⟨0, rfl⟩, ⟨rfl⟩⟩
    case round =>
      obtain ⟨k, rfl, hkn, ⟨q0, hq0⟩, I⟩ := hrel
      have BW := Asd.mk (show Below w.heap.size w wr by rw [hq0]; exact below_dn _ _)
      have QW := Asd.mk hq0
      clear hq0
      by_cases hlt : k < n
      · obtain ⟨b, off, rfl, hb, hil, hcs⟩ := (RA.out.below BW.out).at_enc (enc := intEnc) (fun _ => rfl) (by omega) hlt
        obtain ⟨b', off', rfl, hb', hil', hds⟩ := (RB.out.below BW.out).at_enc (enc := intEnc) (fun _ => rfl) (by omega) hlt
        have c0 : wr.cell? ⟨b, off + k, none⟩ = some (.int .i64 l[k]) := by simpa using hcs 0 _ rfl
        have d0 : wr.cell? ⟨b', off' + k, none⟩ = some (.int .i64 r[k]) := by simpa using hds 0 _ rfl
        generalize hx : l[k] = x at c0
        generalize hy : r[k] = y at d0
        clear hcs hds
        have X := Asd.mk hx
        have Y := Asd.mk hy
        clear hx hy
        by_cases hxy : x = y
        · subst hxy
          go_wp2_with fail
          go_quiet (fail)
          go_wp2_with fail
          go_roundw
          case measure => simp [intOf]; omega
          case rel =>
            refine ⟨k + 1, by go_num, by omega, ⟨_, by rw [QW.out, World.drewN_drewN]⟩, ⟨?_⟩⟩
            rw [List.take_succ_eq_append_getElem hil, List.take_succ_eq_append_getElem hil', I.out, X.out, Y.out]
        · have hlr : l ≠ r := by
            rintro rfl
            exact hxy (X.out.symm.trans Y.out)
          have NE := Asd.mk hlr
          clear hlr X Y
          have ne_list : ∀ {a b : ByteArray}, a ≠ b → (a.toList == b.toList) = false ∧ ¬ a.toList = b.toList := fun {a b} h => ⟨by rw [same_eq]; exact decide_eq_false h, fun e => h (by rw [toList_eq, toList_eq] at e; exact key_ext e)⟩
          have NL := Asd.mk @ne_list
          clear ne_list
          have q1 : (x == y) = false := by simpa using hxy
          clear hxy NL
          go_wp2_with fail
          go_quiet (fail)
          go_wp2_with fail
          go_ret
          exact ⟨by rw [decide_eq_false NE.out]; rfl, _, by rw [QW.out, World.drewN_drewN]⟩
      · have : k = n := by omega
        subst this
        go_wp2_with fail
        go_ret
        have hlr : l = r := by
          have h1 : l.take k = l := List.take_of_length_le (by rw [HL.out]; exact Nat.le_refl _)
          have h2 : r.take k = r := List.take_of_length_le (by rw [HR.out]; exact Nat.le_refl _)
          rw [← h1, ← h2, I.out]
        exact ⟨by rw [decide_eq_true hlr]; rfl, _, QW.out⟩
  · have hne : l ≠ r := by rintro rfl; omega
    have hnm' : ((n : Int) == (m : Int)) = false := by rw [beq_eq_false_iff_ne]; omega
    have hnm'' : ((n : Int) != (m : Int)) = true := by rw [bne_iff_ne]; omega
    have NE := Asd.mk hne
    clear hne hl hr
    go_enter Try.func11, Try.ntmps11
    go_wp2_with fail
    go_ret
    exact ⟨by rw [decide_eq_false NE.out]; rfl, 0, rfl⟩


def intCs (l : List Int) : List Value := l.flatMap intEnc
theorem elt_i : Elt Try.prog 24 3 1 8 := Elt.mk' Try.underlying24 (z := .int .i64 0) (by kernel_rfl) rfl (by omega)
theorem intCs_one (l : List Int) : ∀ u ∈ intCs l, u.oneCell' = true := by
  intro u hu
  unfold intCs at hu
  obtain ⟨r, _, hr⟩ := List.mem_flatMap.1 hu
  simp only [intEnc, List.mem_cons, List.not_mem_nil, or_false] at hr
  subst hr
  rfl
def markI : Int := -77
def LendIPost (base : Nat) (w : World) (n : Nat) (l : List Int) (e : Ending) (w' : World) : Prop :=
  ∃ (P : Option Addr) (cp : Nat), e = .returned (.slice P n cp) ∧ Below w.heap.size w w' ∧ Rd base 3 w' 1 P (n + 1) cp (intCs (l ++ [markI]))
theorem intCs_snoc (l : List Int) (s : Int) : intCs l ++ intCs [s] = intCs (l ++ [s]) := by simp [intCs]

set_option maxHeartbeats 2000000 in
theorem LendInts_calls {base : Nat} {w : World} {A : Option Addr} {n c : Nat} {l : List Int} (hr : Rd base 3 w 1 A n c (intCs l)) (hbig : n * 8 ≤ 140737488351232) (hbs : base ≤ w.heap.size) :
    Calls Try.prog 16 #[.slice A n c] w (LendIPost base w n l) := by
  have R := Asd.mk hr
  have N := Asd.mk (hr.count (enc := intEnc) (fun _ => rfl) (by omega))
  have BS := Asd.mk hbs
  clear hr hbs
  go_enter Try.func16, Try.ntmps16
  go_wp2_with (first
    | (at_builtin; (refine wpList_append_mine (base := base) (own := w.heap.size) (n := 0) (m := n) (v := .slice (some ⟨w.heap.size, 0, none⟩) 0 0) (xs := []) (ys := intCs l) rfl (.tmp 4) (.tmp 5) 24 rfl elt_i rfl rfl (World.ownsRow_made w #[] 0 (Nat.le_refl _) (by simp [maxLen]) (by simp)) (R.out.alloc _) (intCs_one _) (by unfold maxLen; omega) (by omega) (by simp) ?_; intro v1 w1 O1' G1'; rw [Nat.zero_add, List.nil_append] at O1'; obtain ⟨A1, c1, rfl, _⟩ := Rd.of_own (base := base) O1'; have O1 := Asd.mk O1'; have B1 := Asd.mk ((((Below.refl w.heap.size w).alloc (Nat.le_refl _) (.cells #[] 3))).grown G1' (by simp) (fun i hi => by simp [Value.ownBlock] at hi; subst hi; exact Nat.le_refl _)); clear O1' G1'))
    | (at_builtin; (refine wpList_append_mine (base := base) (own := w.heap.size) (n := n) (m := 1) (v := .slice A1 n c1) (xs := intCs l) (ys := intCs [markI]) rfl (.tmp 7) (.tmp 8) 24 rfl elt_i rfl rfl (O1.out.alloc _) (Rd.new_ rfl rfl) (intCs_one _) (by unfold maxLen; omega) (by omega) (by have := B1.out.size; simp; omega) ?_; intro v2 w2 O2' G2'; obtain ⟨A2, c2, rfl, r2⟩ := Rd.of_own (base := base) O2'; have R2 := Asd.mk r2; have B2 := Asd.mk ((B1.out.alloc B1.out.size (.cells #[.int .i64 (-77)] 3)).grown G2' (by have := B1.out.size; simp; omega) (fun i hi => (O1.out.lt i hi).1)); have hc2 : n + 1 ≤ c2 := r2.cap; have hn2 : n ≤ c2 := (by omega); clear O2' G2' r2)))
  go_ret
  refine ⟨A2, c2, by simp, B2.out, ?_⟩
  have h := R2.out
  rw [intCs_snoc] at h
  exact h
theorem lent_ints {base : Nat} {w : World} {P : Option Addr} {n cp : Nat} {l : List Int} (h : Rd base 3 w 1 P (n + 1) cp (intCs (l ++ [markI]))) : l.length = n ∧ Rd base 3 w 1 P n cp (intCs l) := by
  have h1 := h.count (enc := intEnc) (fun _ => rfl) (by omega)
  have hl : l.length = n := by rw [List.length_append] at h1; simp at h1; exact h1
  refine ⟨hl, ?_⟩
  have h2 := h.prefix_ (hi := n) (c' := cp) (by omega) (by have := h.cap; omega) (Nat.le_refl _) h.nil
  have h3 : (intCs (l ++ [markI])).take (n * 1) = intCs l := by
    rw [← intCs_snoc, List.take_append_of_le_length]
    · rw [List.take_of_length_le]
      unfold intCs
      rw [flat_len intEnc 1 (fun _ => rfl), hl]
      exact Nat.le_refl _
    · unfold intCs
      rw [flat_len intEnc 1 (fun _ => rfl), hl]
      exact Nat.le_refl _
  rw [h3] at h2
  exact h2
set_option maxHeartbeats 2000000 in
theorem KeptInts_calls {base : Nat} {w : World} {P A : Option Addr} {n cp c : Nat} {l : List Int} (hx : Rd base 3 w 1 P (n + 1) cp (intCs (l ++ [markI]))) (ha : Rd base 3 w 1 A n c (intCs l)) (hbig : n * 8 ≤ 140737488351232) :
    Calls Try.prog 21 #[.slice P n cp, .slice A n c] w fun e w' => e = .returned (.bool true) ∧ ∃ q, w' = w.drewN q := by
  obtain ⟨hl, hp⟩ := lent_ints hx
  have hsi := SameInts_calls hp ha (by omega)
  rw [decide_eq_true rfl] at hsi
  have HS := Asd.mk hsi
  clear hsi
  have hcap := hx.cap
  have hcap2 : n ≤ cp := by omega
  obtain ⟨b, off, rfl, hb, hil, hcs⟩ := hx.at_enc (enc := intEnc) (fun _ => rfl) (by omega) (show n < n + 1 by omega)
  have c0 : w.cell? ⟨b, off + n, none⟩ = some (.int .i64 (-77)) := by
    have hg : (l ++ [markI])[n] = markI := by
      rw [List.getElem_append_right (by omega)]
      simp
    have h5 := (hcs 0 _ rfl).trans (by rw [hg]; rfl : _ = some (Value.int .i64 (-77)))
    simpa using h5
  clear hx ha hp hcs
  go_enter Try.func21, Try.ntmps21
  go_wp2_with fail
  refine HS.out.mono ?_
  rintro e w1 ⟨rfl, q, hq⟩
  have Q := Asd.mk hq
  have d0 : w1.cell? ⟨b, off + n, none⟩ = some (.int .i64 (-77)) := by rw [hq]; exact c0
  clear hq
  have hn1 : IntKind.i64.wrap ((n : Int) + 1) = (n : Int) + 1 := IntWalk.i64_in _ (by omega)
  have hn2 : (0 : Int) ≤ (n : Int) + 1 ∧ (n : Int) + 1 ≤ (cp : Int) ∧ ((n : Int) + 1).toNat = n + 1 := by omega
  go_wp2_with fail
  go_ret
  exact ⟨rfl, q, Q.out⟩


end Go.Proofs.Ytlhjfblpinpjiaa

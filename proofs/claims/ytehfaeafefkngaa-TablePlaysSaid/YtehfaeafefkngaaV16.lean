/- TablePlays, the walk. -/
import Derived.Test.YtehfaeafefkngaaV15
import Derived.Test.YtehfaeafefkngaaTl4
import Derived.Test.YtehfaeafefkngaaTpg
set_option linter.unusedVariables false
set_option linter.unusedSimpArgs false
namespace Go.Proofs.Ytehfaeafefkngaa
open Go.RowKit

theorem step_calls {base g gr c cr : Nat} {w : World} {l : List Rw} {A Ar : Option Addr} (hT : Tab base w g l A c) (hR : RTab base w gr l Ar cr) (a : ActR) (ha : ActIn base w a) (hp : a.p.n ≤ 300) :
    Calls Try.prog 27 #[.pointer (some ⟨g, 0, none⟩), .pointer (some ⟨gr, 0, none⟩), .agg a.cs.toArray] w (StepPost base w g gr (stepP l a)) := by
  have h := amongP_range a.kind (n := 4) (by omega)
  have h4 : amongP a.kind 4 = 0 ∨ amongP a.kind 4 = 1 ∨ amongP a.kind 4 = 2 ∨ amongP a.kind 4 = 3 := by omega
  rcases h4 with h4 | h4 | h4 | h4
  · exact Step0 hT hR a ha h4
  · exact Step1 hT hR a ha h4
  · exact Step2 hT hR a ha hp h4
  · exact Step3 hT hR a ha h4
theorem ActIn.below {base : Nat} {w w' : World} {a : ActR} (h : ActIn base w a) (hb : Below w.heap.size w w') : ActIn base w' a := ⟨h.ops.below hb, h.fits, h.big, h.rows.below hb⟩
theorem Kept2.to_below {B g gr : Nat} {w w' : World} (h : Kept2 g gr w w') (hB : B ≤ w.heap.size) (h1 : B ≤ g) (h2 : B ≤ gr) : Below B w w' := ⟨h.os, h.tape, h.output, h.size, fun k hk => h.block k (by omega) (by omega) (by omega)⟩

set_option maxHeartbeats 16000000 in
set_option maxRecDepth 100000 in
theorem Plays_walk {w : World} {Aa : Option Addr} {n ca : Nat} {acts : List ActR} (ha : Rd w.heap.size 66 w 5 Aa n ca (acts.flatMap ActR.cs)) (hin : ∀ a ∈ acts, ActIn w.heap.size w a) :
    Calls Try.prog 11 #[.slice Aa n ca] w fun e w' => e = .returned (.bool true) ∧ Below w.heap.size w w' := by
  have hcn := ha.count (enc := ActR.cs) (fun _ => rfl) (by omega)
  have ACT := Asd.mk ha
  have AIN := Asd.mk hin
  have N := Asd.mk hcn
  clear ha hin hcn
  go_enter Try.func11, Try.ntmps11
  go_wp2_with fail
  refine (New_calls w.heap.size w (Nat.le_refl _)).mono ?_
  rintro e w1 ⟨g0, rfl, hT1, hg1, hb1⟩
  have hal : Below w1.heap.size w1 (w1.alloc (.cells #[.slice none 0 0] 64)) := (Below.refl _ _).alloc (Nat.le_refl _) _
  have T2 := Asd.mk (hT1.below hal)
  have B2 := Asd.mk (hb1.trans (hal.mono hb1.size))
  have R2 : Asd (RTab w.heap.size (w1.alloc (.cells #[.slice none 0 0] 64)) w1.heap.size [] none 0) := ⟨⟨heap_alloc_new w1 _, hb1.size, Rd.none_, List.Pairwise.nil, by simp, fun a ha => by cases ha⟩⟩
  clear hT1 hb1 hal
  go_wp2_with fail
  generalize (w1.alloc (.cells #[.slice none 0 0] 64)) = w2 at *
  go_loopw [3, 4, 5] (fun s3 s4 s5 wr => ∃ (g gr i c cr : Nat) (l : List Rw) (A Ar : Option Addr), s3 = .pointer (some ⟨g, 0, none⟩) ∧ s4 = .pointer (some ⟨gr, 0, none⟩) ∧ s5 = .int .i64 i ∧ i ≤ n ∧ i ≤ 100 ∧ Asd (Below w.heap.size w wr) ∧ Asd (Tab w.heap.size wr g l A c) ∧ Asd (RTab w.heap.size wr gr l Ar cr)) (fun _ _ s5 _ => n - (intOf s5).toNat)
  case atStart => exact ⟨g0, w1.heap.size, 0, 0, 0, [], none, none, rfl, rfl, rfl, by omega, by omega, B2, T2, R2⟩
  case round =>
    clear B2 T2 R2
    obtain ⟨g, gr, i, c, cr, l, A, Ar, rfl, rfl, rfl, hin, hi100, BW, TW, RW⟩ := hrel
    have FIN : Asd (∃ (hx : True), True) := ⟨trivial, trivial⟩
    clear FIN
    by_cases hlt : i < n ∧ i < 100
    · obtain ⟨hlt, hlt100⟩ := hlt
      have hil : i < acts.length := by have := N.out; omega
      have hac : i < ca := Nat.lt_of_lt_of_le hlt ACT.out.cap
      have AI := Asd.mk ((AIN.out acts[i] (List.getElem_mem hil)).below BW.out)
      have CC : Asd (∀ W, Below w.heap.size w W → ∃ b off, Aa = some ⟨b, off, none⟩ ∧ ∀ j v, (acts[i].cs)[j]? = some v → W.cell? ⟨b, off + i * 5 + j, none⟩ = some v) := ⟨fun W hW => by
        obtain ⟨b, off, hA, _, _, hcs⟩ := (ACT.out.below hW).at_enc (enc := ActR.cs) (fun _ => rfl) (by omega) hlt
        exact ⟨b, off, hA, hcs⟩⟩
      generalize acts[i] = a at *
      obtain ⟨b, off, hA, hcs⟩ := CC.out wr BW.out
      subst hA
      have CD : Asd (∀ W, Below w.heap.size w W → ∀ j v, (a.cs)[j]? = some v → W.cell? ⟨b, off + i * 5 + j, none⟩ = some v) := ⟨fun W hW => by
        obtain ⟨b', off', hA, hcs⟩ := CC.out W hW
        cases hA
        exact hcs⟩
      have AC := Asd.mk (among_calls a.kind 5 (by omega) (by omega))
      have STC := Asd.mk (fun hp => step_calls TW.out RW.out a AI.out hp)
      obtain ⟨kind, ⟨qA, qn, qc⟩, ops, ⟨f, t⟩, ⟨pA, pn, pc⟩, rows⟩ := a
      have c0 := hcs 0 _ rfl
      have c1 := hcs 1 _ rfl
      have c2 := hcs 2 _ rfl
      have c3 := hcs 3 _ rfl
      have c4 := hcs 4 _ rfl
      rw [Nat.add_zero] at c0
      have hi1 : (i : Int) < 100 := by omega
      simp only at AC STC
      unfold ActR.cs at STC
      clear hcs CC CD
      by_cases hp : (300 : Int) < (pn : Int)
      · go_wp2_with fail
        refine (works_calls _).mono ?_
        rintro e w3 ⟨rfl, hb3⟩
        have B3 := Asd.mk (BW.out.trans (hb3.mono BW.out.size))
        clear hb3
        go_wp2_with fail
        go_ret
        exact ⟨rfl, B3.out⟩
      · have hp3 : pn ≤ 300 := by omega
        have STC2 := Asd.mk (STC.out hp3)
        clear STC
        go_wp2_with fail
        refine (AC.out _).mono ?_
        rintro e w3 ⟨rfl, hw3⟩
        subst hw3
        by_cases h5 : amongP kind 5 = 4
        · rw [h5]
          have FK := Asd.mk (Fork_calls2 TW.out BW.out.size)
          clear h5 STC2 c0 c1 c2 c3 c4 AC
          go_wp2_with fail
          refine FK.out.mono ?_
          rintro e w5 ⟨g', rfl, hT5, hg5, hb5⟩
          have B5 := Asd.mk (BW.out.trans (hb5.mono BW.out.size))
          have W5 := Asd.mk (TW.out.below hb5)
          have RF := Asd.mk (RFork_calls (RW.out.below hb5) B5.out.size)
          have T5 := Asd.mk hT5
          have hgg : g' ≠ g := by have h1 := TW.out.lt; omega
          clear FK hb5 hT5
          go_wp2_with fail
          refine RF.out.mono ?_
          rintro e w6 ⟨gr', Ar', cr', rfl, hR6, hgr6, hb6⟩
          have B6 := Asd.mk (B5.out.trans (hb6.mono B5.out.size))
          have W6 := Asd.mk (W5.out.below hb6)
          have T6 := Asd.mk (T5.out.below hb6)
          have R6 := Asd.mk hR6
          have DC := Drop_calls W6.out ⟨⟨#[]⟩, ⟨#[]⟩⟩
          unfold SpanR.enc at DC
          have DCC := Asd.mk DC
          clear hb6 hR6 DC RF W5 T5
          go_wp2_with fail
          refine DCC.out.mono ?_
          rintro e w7 ⟨rfl, hg7, A7, c7, hT7, _⟩
          have hrow : ∀ j, some g = some j → IsT w6 j 71 ∧ w.heap.size ≤ j := fun j hj => by injection hj with hj; subst hj; exact ⟨⟨_, _, W6.out.blk⟩, W6.out.ge⟩
          have B7 := Asd.mk (B6.out.grown hg7 B6.out.size (fun j hj => (hrow j hj).2))
          have T7 := Asd.mk (T6.out.grown hg7 W6.out.blk W6.out.ge hgg)
          have R7 := Asd.mk (R6.out.grownR hg7 hrow (by decide) (by decide))
          have W7 := Asd.mk hT7
          have hal : Below w7.heap.size w7 (w7.alloc (.cells #[.int .i64 1, .string ⟨#[122, 122]⟩, .string ⟨#[]⟩, .int .i64 1, .int .i64 0, .int .i64 0] 28)) := (Below.refl _ _).alloc (Nat.le_refl _) _
          have DO := Asd.mk (Do_calls2 (W7.out.below hal) [⟨1, ⟨#[122, 122]⟩, ⟨#[]⟩, 1, 0, 0⟩] (some ⟨w7.heap.size, 0, none⟩) 1 1 (Rd.new_ rfl rfl) (by intro x hx; rw [List.mem_singleton] at hx; subst hx; exact ⟨by decide, by decide⟩))
          have HA := Asd.mk hal
          clear hg7 hT7 hrow DCC hal W6 T6 R6 B6
          go_wp2_with fail
          refine DO.out.mono ?_
          rintro e w4 ⟨A8, n8, c8, rr8, rfl, hg8, ⟨A9, c9, hT9, _, _⟩, _, _⟩
          have WA := W7.out.below HA.out
          have hrow : ∀ j, some g = some j → IsT (w7.alloc (.cells #[.int .i64 1, .string ⟨#[122, 122]⟩, .string ⟨#[]⟩, .int .i64 1, .int .i64 0, .int .i64 0] 28)) j 71 ∧ w.heap.size ≤ j := fun j hj => by injection hj with hj; subst hj; exact ⟨⟨_, _, WA.blk⟩, WA.ge⟩
          have B4 := Asd.mk ((B7.out.trans (HA.out.mono B7.out.size)).grown hg8 (B7.out.trans (HA.out.mono B7.out.size)).size (fun j hj => (hrow j hj).2))
          have T4 := Asd.mk ((T7.out.below HA.out).grown hg8 WA.blk WA.ge hgg)
          have R4 := Asd.mk ((R7.out.below HA.out).grownR hg8 hrow (by decide) (by decide))
          have hcr4 := R4.out.cell
          have hgr4 := R4.out.lt
          clear hg8 hT9 hrow DO WA W7 T7 R7 B7 HA BW TW RW
          go_wp2_with fail
          go_region_with (go_at_call 17; refine (Len_calls (T4.out.below ((Below.refl w4.heap.size w4).drew))).mono ?_; rintro e w9 ⟨rfl, hw9⟩; subst hw9)
          all_goals
            have B9 := Asd.mk B4.out.drew
            have T9 := Asd.mk (T4.out.below ((Below.refl w4.heap.size w4).drew))
            have R9 := Asd.mk (R4.out.below ((Below.refl w4.heap.size w4).drew))
            generalize w4.drew = w9 at *
            clear hcr4 hgr4
            go_wp2_with fail
            go_roundw
            case measure => simp [intOf]; omega
            case rel => exact ⟨g', gr', i + 1, l.length, cr', l, A, Ar', rfl, rfl, by go_num, by omega, by omega, B9, T9, R9⟩
        · have h5b : (amongP kind 5 == 4) = false := by simpa using h5
          generalize amongP kind 5 = ak at *
          go_wp2_with fail
          refine STC2.out.mono ?_
          rintro e w4 ⟨rfl, hk4, ⟨A4, c4', hT4⟩, ⟨Ar4, cr4, hR4⟩⟩
          have B4 := Asd.mk (BW.out.trans (hk4.to_below BW.out.size TW.out.ge RW.out.ge))
          have T4 := Asd.mk hT4
          have R4 := Asd.mk hR4
          have hcr4 := hR4.cell
          have hgr4 := hR4.lt
          generalize stepP l ⟨kind, ⟨qA, qn, qc⟩, ops, ⟨f, t⟩, ⟨pA, pn, pc⟩, rows⟩ = l4 at *
          clear hk4 hT4 hR4 STC2 AC h5 h5b c0 c1 c2 c3 c4 BW TW RW
          go_wp2_with fail
          go_region_with (go_at_call 17; refine (Len_calls (T4.out.below ((Below.refl w4.heap.size w4).drew))).mono ?_; rintro e w9 ⟨rfl, hw9⟩; subst hw9)
          all_goals
            have B9 := Asd.mk B4.out.drew
            have T9 := Asd.mk (T4.out.below ((Below.refl w4.heap.size w4).drew))
            have R9 := Asd.mk (R4.out.below ((Below.refl w4.heap.size w4).drew))
            generalize w4.drew = w9 at *
            clear hcr4 hgr4
            go_wp2_with fail
            go_roundw
            case measure => simp [intOf]; omega
            case rel => exact ⟨g, gr, i + 1, c4', cr4, l4, A4, Ar4, rfl, rfl, by go_num, by omega, by omega, B9, T9, R9⟩
    · have hcase : ¬ (i : Int) < (n : Int) ∨ ((i : Int) < (n : Int) ∧ ¬ (i : Int) < 100) := by omega
      have hcr := RW.out.cell
      have hrl := RW.out.lt
      have hRC : ∀ W, Below wr.heap.size wr W → Calls Try.prog 20 #[.pointer (some ⟨g, 0, none⟩), .agg #[.string ⟨#[]⟩, .string ⟨#[]⟩]] W fun e w' => ∃ A' c', e = .returned (.slice A' l.length c') ∧ Rd w.heap.size 53 w' 3 A' l.length c' (rowCells l) ∧ Below W.heap.size W w' := fun W hW => by
        have h := Rows_calls (TW.out.below hW) ⟨⟨#[]⟩, ⟨#[]⟩⟩
        rw [rows_all] at h
        exact h.mono fun e w' ⟨A', c', h1, h2, _, h4⟩ => ⟨A', c', h1, h2, h4⟩
      have hSC : ∀ W (A' : Option Addr) (c' : Nat), Rd w.heap.size 53 W 3 A' l.length c' (rowCells l) → Rd w.heap.size 53 W 3 Ar l.length cr (rowCells l) → Calls Try.prog 21 #[.slice A' l.length c', .slice Ar l.length cr] W fun e w' => e = .returned (.bool true) ∧ Below W.heap.size W w' := fun W A' c' h1 h2 => by
        have h := SameRows_calls h1 h2 (by have := TW.out.big; omega)
        rwa [decide_eq_true rfl] at h
      have RC := Asd.mk hRC
      have SC := Asd.mk hSC
      clear hRC hSC hlt
      rcases hcase with h1 | ⟨h1, h2⟩
      all_goals
        go_wp2_with fail
        go_region_with (first
          | (go_at_call 20; refine (RC.out _ ((Below.refl wr.heap.size wr).drew)).mono ?_; rintro e w3 ⟨A3, c3, rfl, hr3, hb3⟩; have B3 := Asd.mk (((Below.refl wr.heap.size wr).drew).trans hb3); have D3 := Asd.mk hr3; have hcr3 := (RW.out.below B3.out).cell; have hrl3 := (RW.out.below B3.out).lt; clear hr3 hb3)
          | (go_at_call 21; refine (SC.out _ _ _ D3.out (RW.out.below B3.out).rd).mono ?_; rintro e w4 ⟨rfl, hb4⟩; have B4 := Asd.mk (B3.out.trans (hb4.mono B3.out.size)); clear hb4)
          | (go_at_call 13; refine (works_calls _).mono ?_; rintro e w5 ⟨rfl, hb5⟩; have B5 := Asd.mk (B4.out.trans (hb5.mono B4.out.size)); clear hb5))
        all_goals
          go_wp2_with fail
          go_ret
          exact ⟨rfl, BW.out.trans (B5.out.mono BW.out.size)⟩
end Go.Proofs.Ytehfaeafefkngaa

/- TableFull, the walk. -/
import Derived.Test.YtehfaeafefkngaaTt5
import Derived.Test.YtehfaeafefkngaaTl8
import Derived.Test.YtehfaeafefkngaaTu1
set_option linter.unusedVariables false
set_option linter.unusedSimpArgs false
namespace Go.Proofs.Ytehfaeafefkngaa
open Go.RowKit

theorem conv_key (k : Nat) : strOfNums [97 + (k : Int) / 256, (k : Int) % 256] = fullKey k := by
  unfold strOfNums fullKey
  have h1 : (97 + (k : Int) / 256).toNat = 97 + k / 256 := by omega
  have h2 : ((k : Int) % 256).toNat = k % 256 := by omega
  simp [h1, h2]
set_option maxRecDepth 100000 in
theorem conv_run (w : World) (k : Nat) : (convert 56 9 (.slice (some ⟨w.heap.size, 0, none⟩) 2 2)).run Try.prog (w.alloc (.cells #[.int .u8 (97 + (k : Int) / 256), .int .u8 ((k : Int) % 256)] 5)) = .ok (.string (fullKey k)) (w.alloc (.cells #[.int .u8 (97 + (k : Int) / 256), .int .u8 ((k : Int) % 256)] 5)) := by
  rw [← conv_key]
  refine run_convert_bytes_arg (P := Try.prog) _ 56 5 Try.underlying56 Try.underlying5 w.heap.size 0 2 2 _ rfl (fun i hi => ?_) _ Try.underlying9
  have : i = 0 ∨ i = 1 := by omega
  rcases this with rfl | rfl
  · exact (cell_of_row _ _ 0 _ _ _ (heap_alloc_new w _)).trans rfl
  · exact (cell_of_row _ _ 1 _ _ _ (heap_alloc_new w _)).trans rfl

set_option maxHeartbeats 16000000 in
set_option maxRecDepth 100000 in
theorem Full_walk {w : World} (val : ByteArray) (hv : val.size ≤ 9223372036854775807) :
    Calls Try.prog 9 #[.string val] w fun e w' => e = .returned (.bool true) ∧ Below w.heap.size w w' := by
  go_enter Try.func9, Try.ntmps9
  go_wp2_with fail
  refine (New_calls w.heap.size w (Nat.le_refl _)).mono ?_
  rintro e wa ⟨gt, rfl, hTt, hgt, hba⟩
  have Ba := Asd.mk hba
  have Tt := Asd.mk hTt
  clear hba hTt
  go_wp2_with fail
  refine (works_calls _).mono ?_
  rintro e wb ⟨rfl, hbb⟩
  have Bb := Asd.mk (Ba.out.trans (hbb.mono Ba.out.size))
  have Tt := Asd.mk (Tt.out.below hbb)
  clear hbb
  have hgl := Tt.out.lt
  have hwb : w.heap.size ≤ wb.heap.size := Bb.out.size
  have cut : ∃ v : ByteArray, v.size ≤ 20 ∧ (if (20 : Int) < (val.size : Int) then val.extract 0 20 else val) = v := by
    split
    · exact ⟨_, by rw [ByteArray.size_extract]; omega, rfl⟩
    · exact ⟨_, by omega, rfl⟩
  obtain ⟨v, hv20, hcut⟩ := cut
  have V20 := Asd.mk hv20
  by_cases hl : (20 : Int) < (val.size : Int)
  all_goals
    first | rw [if_pos hl] at hcut | rw [if_neg hl] at hcut
    have HC := Asd.mk hcut
    clear hcut
    go_wp2_with fail
    rw [HC.out]
    go_loopw [4, 5] (fun s4 s5 wr => ∃ (k cr : Nat) (Ar : Option Addr), s4 = .slice Ar k cr ∧ s5 = .int .i64 k ∧ k ≤ 4096 ∧ Asd (Below w.heap.size w wr) ∧ Asd (wb.heap.size ≤ wr.heap.size) ∧ Asd (Tab w.heap.size wr gt [] none 0) ∧ Asd (wr.ownsRow wb.heap.size 53 3 (.slice Ar k cr) k (rowCells (fullRows v k)))) (fun _ s5 _ => 4096 - (intOf s5).toNat)
    case atStart => exact ⟨0, 0, none, rfl, rfl, by omega, Bb, ⟨Nat.le_refl _⟩, Tt, ⟨World.ownsRow_nil _ _ _ _⟩⟩
    case round =>
      obtain ⟨k, cr, Ar, rfl, rfl, hk, BW, SW, TW, OW⟩ := hrel
      by_cases hlt : k < 4096
      · have hconv := conv_run wr k
        have hal : Below wr.heap.size wr ((wr.alloc (.cells #[.int .u8 (97 + (k : Int) / 256), .int .u8 ((k : Int) % 256)] 5)).alloc (.cells #[.string (fullKey k), .int .i64 (1 + (k : Int)), .string v] 53)) := ((Below.refl _ _).alloc (Nat.le_refl _) _).alloc (by simp) _
        have AL := Asd.mk hal
        have CV := Asd.mk hconv
        clear hal
        go_wp2_with (at_builtin; refine wpList_append_mine (base := w.heap.size) (own := wb.heap.size) (n := k) (m := 1) (v := .slice Ar k cr) (xs := rowCells (fullRows v k)) (ys := rowCells [fullRow v k]) rfl (.tmp 24) (.tmp 37) 37 rfl elt_row rfl rfl ((OW.out.alloc _).alloc _) (Rd.new2 _ rfl rfl) (row_one _) (by unfold maxLen; omega) (by omega) (Nat.le_trans SW.out AL.out.size) ?_; intro v9 w9 O9' G9'; obtain ⟨A9, c9, rfl, _⟩ := Rd.of_own (base := w.heap.size) O9'; have O9 := Asd.mk O9'; have G9 := Asd.mk G9'; clear O9' G9')
        go_roundw
        case measure => simp [intOf]; omega
        case rel =>
          have hre : rowCells (fullRows v k) ++ rowCells [fullRow v k] = rowCells (fullRows v (k + 1)) := by rw [fullRows_snoc]; simp [rowCells]
          have O10 := O9.out
          rw [hre] at O10
          refine ⟨k + 1, c9, A9, rfl, by go_num, by omega, ⟨(BW.out.trans (AL.out.mono BW.out.size)).grown G9.out (Nat.le_trans BW.out.size AL.out.size) (fun j hj => Nat.le_trans hwb (OW.out.lt j hj).1)⟩, ⟨Nat.le_trans SW.out (Nat.le_trans AL.out.size G9.out.size)⟩, ⟨Tab.apart (TW.out.below AL.out) ((OW.out.alloc _).alloc _) G9.out (fun a a' ha => by cases ha)⟩, ⟨O10⟩⟩
      · obtain rfl : k = 4096 := by omega
        obtain ⟨Ar', cr', hsl, hRr⟩ := Rd.of_own (base := w.heap.size) OW.out
        cases hsl
        have RR := Asd.mk hRr
        have htk := Take_calls TW.out hRr (by omega)
        rw [full_take V20.out] at htk
        have TK := Asd.mk htk
        clear hRr htk
        have FL := Asd.mk (fullRows_len v 4096)
        have FA := Asd.mk (full_add (v := v))
        have FM := Asd.mk (full_more V20.out)
        have F2 := Asd.mk (full_two v)
        generalize hR : fullRows v 4096 = R at TK RR FL FA FM F2
        have HR := Asd.mk hR
        clear hR
        go_wp2_with fail
        refine TK.out.mono ?_
        rintro e w1 ⟨rfl, hg1, A1, c1, hT1, _⟩
        have gT : ∀ (W : World) (l : List Rw) (A : Option Addr) (c : Nat), Tab w.heap.size W gt l A c → ∀ j, some gt = some j → IsT W j 71 ∧ w.heap.size ≤ j := fun W l A c h j hj => by
          injection hj with hj
          subst hj
          exact ⟨⟨_, _, h.blk⟩, h.ge⟩
        have GT := Asd.mk gT
        have B1 := Asd.mk (BW.out.grown hg1 BW.out.size (fun j hj => (gT _ _ _ _ TW.out j hj).2))
        have R1 := Asd.mk (Rd.grown RR.out hg1 TW.out.blk (by decide) TW.out.ge)
        have T1 := Asd.mk hT1
        clear hg1 hT1 gT
        go_wp2_with fail
        refine (Len_calls T1.out).mono ?_
        rw [FL.out]
        rintro e w1' ⟨rfl, rfl⟩
        go_wp2_with fail
        have hal : Below w1.heap.size w1 (w1.alloc (.cells #[.string ⟨#[122, 122]⟩, .int .i64 1, .string ⟨#[]⟩] 53)) := (Below.refl _ _).alloc (Nat.le_refl _) _
        have htk := Take_calls (T1.out.below hal) (B := some ⟨w1.heap.size, 0, none⟩) (n := 1) (d := 1) (rows := [⟨⟨#[122, 122]⟩, 1, ⟨#[]⟩⟩]) (Rd.new_ rfl rfl) (by omega)
        rw [FM.out] at htk
        refine htk.mono ?_
        clear htk
        rintro e w2 ⟨rfl, hg2, A2, c2, hT2, _⟩
        have T1b := T1.out.below hal
        have B2 := Asd.mk ((B1.out.trans (hal.mono B1.out.size)).grown hg2 (Nat.le_trans B1.out.size hal.size) (fun j hj => (GT.out _ _ _ _ T1b j hj).2))
        have R2 := Asd.mk (Rd.grown (R1.out.below hal) hg2 T1b.blk (by decide) T1b.ge)
        have T2 := Asd.mk hT2
        clear hg2 hT2 hal T1b
        go_wp2_with fail
        have hd := Do1op T2.out zzOp ⟨by decide, by decide⟩ rfl
        rw [FA.out] at hd
        refine hd.mono ?_
        clear hd
        rintro e w3 ⟨As, ns, cs, r1, BB, rfl, hg3, ⟨A3, c3, hT3⟩, hQ3, hM3⟩
        simp only at hT3 hM3 ⊢
        obtain ⟨q, rfl, hq⟩ := res_single hM3 rfl
        have hns : ns = 1 := by have := hQ3.len; simp [resCells, RRes.enc] at this; omega
        subst hns
        have B3 := Asd.mk (B2.out.grown hg3 B2.out.size (fun j hj => (GT.out _ _ _ _ T2.out j hj).2))
        have R3 := Asd.mk (Rd.grown R2.out hg3 T2.out.blk (by decide) T2.out.ge)
        have T3 := Asd.mk hT3
        have hal : Below w3.heap.size w3 (w3.alloc (.cells #[.int .i64 0, .int .i64 0] 32)) := (Below.refl _ _).alloc (Nat.le_refl _) _
        have B4 := Asd.mk (B3.out.trans (hal.mono B3.out.size))
        have R4 := Asd.mk (R3.out.below hal)
        have T4 := Asd.mk (T3.out.below hal)
        obtain ⟨gb, go, rfl, hgb, hgl4, hes⟩ := hQ3.at_enc (enc := RRes.enc) (fun _ => rfl) (by omega) (i := 0) (by omega)
        have e0 : w3.cell? ⟨gb, go, none⟩ = some (.int .i64 q.code) := hes 0 _ rfl
        rw [hM3.1.code] at e0
        have F4 : Asd ((w3.alloc (.cells #[.int .i64 0, .int .i64 0] 32)).heap[w3.heap.size]? = some (.cells #[.int .i64 0, .int .i64 0] 32 (0, 0))) := ⟨heap_alloc_new w3 _⟩
        have hfb : w.heap.size ≤ w3.heap.size := B3.out.size
        have hgl3 : gt < w3.heap.size := T3.out.lt
        obtain ⟨rb, ro, rfl, hrb, hr7, hcs⟩ := R3.out.at_enc (enc := Rw.enc) (fun _ => rfl) (by omega) (i := 7) (by omega)
        have k7 : w3.cell? ⟨rb, ro + 7 * 3, none⟩ = some (.string (fullKey 7)) := (hcs 0 _ rfl).trans (by
          have : R[7].key = fullKey 7 := by
            have h7 := HR.out
            subst h7
            simp [fullRows, fullRow]
          rw [this])
        simp only at e0
        clear hg3 hT3 hQ3 hM3 hq hal hes hcs
        go_wp2_with fail
        obtain ⟨l', r1, r2, hd2, hl'⟩ := F2.out
        have hal5 : Below (w3.alloc (.cells #[.int .i64 0, .int .i64 0] 32)).heap.size (w3.alloc (.cells #[.int .i64 0, .int .i64 0] 32)) ((w3.alloc (.cells #[.int .i64 0, .int .i64 0] 32)).alloc (.cells #[.int .i64 4, .string (fullKey 7), .string ⟨#[]⟩, .int .i64 0, .int .i64 0, .int .i64 0, .int .i64 1, .string ⟨#[122, 122]⟩, .string ⟨#[]⟩, .int .i64 1, .int .i64 0, .int .i64 0] 28)) := (Below.refl _ _).alloc (Nat.le_refl _) _
        have T5 := T4.out.below hal5
        have hdo := Do_calls T5 [delOp (fullKey 7), zzOp] (some ⟨w3.heap.size + 1, 0, none⟩) 2 2 (Rd.new2 (n := 2) (xs := opCells [delOp (fullKey 7), zzOp]) _ rfl rfl) (fun y hy => by
          simp only [List.mem_cons, List.not_mem_nil, or_false] at hy
          rcases hy with rfl | rfl
          · exact ⟨by decide, by decide⟩
          · exact ⟨by decide, by decide⟩)
        rw [hd2] at hdo
        have B5 := Asd.mk (B4.out.trans (hal5.mono B4.out.size))
        have F5 := Asd.mk ((hal5.block _ (by simp)).trans F4.out)
        have hs5 : w3.heap.size < ((w3.alloc (.cells #[.int .i64 0, .int .i64 0] 32)).alloc (.cells #[.int .i64 4, .string (fullKey 7), .string ⟨#[]⟩, .int .i64 0, .int .i64 0, .int .i64 0, .int .i64 1, .string ⟨#[122, 122]⟩, .string ⟨#[]⟩, .int .i64 1, .int .i64 0, .int .i64 0] 28)).heap.size := by simp; omega
        have DO := Asd.mk hdo
        have T5' := Asd.mk T5
        clear hal5 T5 hdo hd2
        generalize ((w3.alloc (.cells #[.int .i64 0, .int .i64 0] 32)).alloc (.cells #[.int .i64 4, .string (fullKey 7), .string ⟨#[]⟩, .int .i64 0, .int .i64 0, .int .i64 0, .int .i64 1, .string ⟨#[122, 122]⟩, .string ⟨#[]⟩, .int .i64 1, .int .i64 0, .int .i64 0] 28)) = w5 at DO B5 F5 T5' hs5 ⊢
        refine DO.out.mono ?_
        rintro e w6 ⟨Bs, nb, cb, r6, rfl, hg6, ⟨A6, c6, hT6⟩, hO6, hM6⟩
        simp only at hT6 hM6 ⊢
        have hnb : nb = 2 := by
          have h1 := hO6.1
          have h2 := All2.len hM6
          match r6, h2 with
          | [x, y], _ => simp [resCells, RRes.enc] at h1; omega
        subst hnb
        have hF6 : w6.heap[w3.heap.size]? = some (.cells #[.int .i64 0, .int .i64 0] 32 (0, 0)) := (hg6.block _ hs5 (by intro e; injection e; omega)).trans F5.out
        have f0 : w6.cell? ⟨w3.heap.size, 0, none⟩ = some (.int .i64 0) := (cell_of_row w6 _ 0 _ _ _ hF6).trans rfl
        have f1 : w6.cell? ⟨w3.heap.size, 1, none⟩ = some (.int .i64 0) := (cell_of_row w6 _ 1 _ _ _ hF6).trans rfl
        have hfz : ∀ i, w6.frozen? ⟨w3.heap.size, i, none⟩ = false := fun i => by simp [World.frozen?, hF6]
        have hs6 : w3.heap.size < w6.heap.size := Nat.lt_of_lt_of_le hs5 hg6.size
        have hIF : IsT w6 w3.heap.size 32 := ⟨_, _, hF6⟩
        have B6 := B5.out.grown hg6 B5.out.size (fun j hj => (GT.out _ _ _ _ T5'.out j hj).2)
        have T7 := Asd.mk (((hT6.set (p := ⟨w3.heap.size, 0, none⟩) hIF (by decide) (by decide) hfb (.int .i64 0)).set (p := ⟨w3.heap.size, 1, none⟩) (hIF.set _ _) (by decide) (by decide) hfb (.int .i64 0)))
        have B7 : Asd (Below w.heap.size w ((w6.setCell ⟨w3.heap.size, 0, none⟩ (.int .i64 0)).setCell ⟨w3.heap.size, 1, none⟩ (.int .i64 0))) := ⟨(B6.setCell (by exact hfb) _).setCell (by exact hfb) _⟩
        have hl'' : (l'.length : Int) = 4096 := by omega
        have HL := Asd.mk hl'
        have HL2 := Asd.mk hl''
        clear hg6 hT6 hO6 hM6 hF6 hIF B6 hl' hl''
        go_wp2_with fail
        refine (Len_calls T7.out).mono ?_
        rw [HL.out]
        rintro e w8 ⟨rfl, rfl⟩
        go_wp2_with fail
        refine (Drop_calls T7.out allS).mono ?_
        have hen : (endsP l' allS).2 - (endsP l' allS).1 = 4096 := by
          have := rowsP_len l' allS
          rw [show rowsP l' allS = l' from rows_all l', HL.out] at this
          omega
        rw [hen]
        rintro e w9 ⟨rfl, hg9, _⟩
        have B9 := Asd.mk (B7.out.grown hg9 B7.out.size (fun j hj => (GT.out _ _ _ _ T7.out j hj).2))
        clear hg9 hen
        go_wp2_with fail
        go_ret
        exact ⟨by simp, B9.out⟩
end Go.Proofs.Ytehfaeafefkngaa

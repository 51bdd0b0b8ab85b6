/- diff.Digest. -/
import Derived.Test.YtgiajfgeplekbaaH1
import Derived.Test.YtgiajfgeplekbaaQ6
set_option linter.unusedVariables false
set_option linter.unusedSimpArgs false
namespace Go.Proofs.Ytgiajfgeplekbaa
open Go.RowKit

def stampL (s : Int) : List Int := [IntKind.u64.wrap s / 72057594037927936 % 256, IntKind.u64.wrap s / 281474976710656 % 256, IntKind.u64.wrap s / 1099511627776 % 256, IntKind.u64.wrap s / 4294967296 % 256, IntKind.u64.wrap s / 16777216 % 256, IntKind.u64.wrap s / 65536 % 256, IntKind.u64.wrap s / 256 % 256, IntKind.u64.wrap s % 256]
def stampC (s : Int) (i : Nat) : List Value := ((stampL s).take i).map (fun v => Value.int .u8 v) ++ List.replicate (8 - i) (.int .u8 0)
theorem stampC_len (s : Int) {i : Nat} (hi : i ≤ 8) : (stampC s i).length = 8 := by
  unfold stampC
  rw [List.length_append, List.length_map, List.length_take, List.length_replicate]
  show min i 8 + (8 - i) = 8
  omega
/-- A row goes into a digest. -/
def digR (x : Int) (r : Rw) : Int := sumD (sumD (sumD (sumD (sumD x (byteL r.key)) (byteL ⟨#[0]⟩)) (stampL r.stamp)) (byteL r.val)) (byteL ⟨#[1]⟩)
def digP (l : List Rw) : Int := l.foldl digR 14695981039346656037
theorem digP_snoc (l : List Rw) (r : Rw) : digP (l ++ [r]) = digR (digP l) r := by simp [digP]
theorem stamp_rd {w W : World} {g : Nat} {cs : Array Value} {s : Int} (hh : w.heap[g]? = some (.cells cs 70 (0, 0))) (hcs : cs.toList = stampC s 8) (hW : Below w.heap.size w W) :
    Rd W.heap.size 5 W 1 (some ⟨g, 0, none⟩) 8 8 ((stampL s).flatMap vEnc) := by
  have hg : g < w.heap.size := (Array.getElem?_eq_some_iff.1 hh).1
  have hgW : g < W.heap.size := Nat.lt_of_lt_of_le hg hW.size
  refine ⟨rfl, Nat.le_refl _, fun e => (by cases e), fun _ => ⟨g, 0, rfl, ⟨hgW, .inl hgW⟩, fun j u hu => ?_⟩⟩
  have h1 : W.heap[g]? = some (.cells cs 70 (0, 0)) := (hW.block g hg).trans hh
  rw [cell_of_row _ _ _ _ _ _ h1, Nat.zero_add, ← Array.getElem?_toList, hcs]
  exact hu

set_option maxHeartbeats 8000000 in
set_option maxRecDepth 100000 in
theorem Digest_calls {base : Nat} {w : World} {A : Option Addr} {n c : Nat} {l : List Rw} (hr : Rd base 29 w 3 A n c (rowCells l)) (hbig : n ≤ 1000000) (hs : ∀ r ∈ l, r.key.size ≤ 9223372036854775807 ∧ r.val.size ≤ 9223372036854775807) :
    Calls Try.prog 23 #[.slice A n c] w fun e w' => e = .returned (.int .u64 (digP l)) ∧ Below w.heap.size w w' := by
  have hn := hr.count (enc := Rw.enc) (fun _ => rfl) (by omega)
  have R := Asd.mk hr
  have N := Asd.mk hn
  have SZ := Asd.mk hs
  clear hr hn hs
  go_enter Try.func23, Try.ntmps23
  go_wp2_with fail
  go_loopw [3, 10] (fun s3 s10 wr => ∃ (x : Int) (k : Nat), s3 = .int .u64 x ∧ s10 = .int .i64 k ∧ k ≤ n ∧ Asd (Below w.heap.size w wr) ∧ Asd (x = digP (l.take k))) (fun _ s10 _ => n - (intOf s10).toNat)
  case atStart => exact ⟨_, 0, rfl, rfl, Nat.zero_le _, ⟨Below.refl _ _⟩, ⟨rfl⟩⟩
  case round =>
    obtain ⟨x, k, rfl, rfl, hk, BW, DX⟩ := hrel
    by_cases hlt : k < n
    · have hil : k < l.length := by have := N.out; omega
      obtain ⟨b, off, rfl, _, _, c0, c1, c2⟩ := (R.out.below BW.out).row hlt
      have hcap : k < c := Nat.lt_of_lt_of_le hlt R.out.cap
      have hsz := SZ.out l[k] (List.getElem_mem hil)
      have htk : l.take (k + 1) = l.take k ++ [l[k]] := List.take_succ_eq_append_getElem hil
      generalize l[k] = y at c0 c1 c2 hsz htk
      have TK := Asd.mk htk
      have Y1 := Asd.mk hsz.1
      have Y2 := Asd.mk hsz.2
      have hal : Below wr.heap.size wr (wr.alloc (.cells #[.string y.key, .int .i64 y.stamp, .string y.val] 29)) := (Below.refl _ _).alloc (Nat.le_refl _) _
      have B4 := Asd.mk (BW.out.trans (hal.mono BW.out.size))
      have X4 : Asd (Rd base 29 (wr.alloc (.cells #[.string y.key, .int .i64 y.stamp, .string y.val] 29)) 3 (some ⟨wr.heap.size, 0, none⟩) 1 1 (rowCells [y])) := ⟨Rd.new_ rfl rfl⟩
      have hl4 : wr.heap.size < (wr.alloc (.cells #[.string y.key, .int .i64 y.stamp, .string y.val] 29)).heap.size := by simp
      clear hsz hal htk
      go_wp2_with fail
      clear c0 c1 c2
      generalize (wr.alloc (.cells #[.string y.key, .int .i64 y.stamp, .string y.val] 29)) = w4 at B4 X4 hl4 ⊢
      generalize wr.heap.size = rb at X4 hl4 ⊢
      refine (sum_calls _ y.key Y1.out _).mono ?_
      rintro e w5 ⟨rfl, hw5⟩
      subst hw5
      go_wp2_with fail
      refine (sum_calls _ ⟨#[0]⟩ (by decide) _).mono ?_
      rintro e w6 ⟨rfl, hw6⟩
      subst hw6
      obtain ⟨d0, d1, d2⟩ := X4.out.row1
      obtain ⟨x2, hx2⟩ : ∃ x2, sumD (sumD x (byteL y.key)) (byteL ⟨#[0]⟩) = x2 := ⟨_, rfl⟩
      rw [hx2]
      have XD2 := Asd.mk hx2
      clear hx2
      go_wp2_with fail
      have Z0 : Asd ((w6.alloc (.cells #[.int .u8 0, .int .u8 0, .int .u8 0, .int .u8 0, .int .u8 0, .int .u8 0, .int .u8 0, .int .u8 0] 70)).heap[w6.heap.size]? = some (.cells #[.int .u8 0, .int .u8 0, .int .u8 0, .int .u8 0, .int .u8 0, .int .u8 0, .int .u8 0, .int .u8 0] 70 (0, 0))) := ⟨heap_alloc_new w6 _⟩
      go_loopw [19] (fun s19 wv => ∃ i : Nat, s19 = .int .i64 i ∧ i ≤ 8 ∧ Asd (Below w6.heap.size w6 wv) ∧ Asd (∃ cs : Array Value, wv.heap[w6.heap.size]? = some (.cells cs 70 (0, 0)) ∧ cs.toList = stampC y.stamp i)) (fun s19 _ => 8 - (intOf s19).toNat)
      case atStart => exact ⟨0, rfl, by omega, ⟨(Below.refl _ _).alloc (Nat.le_refl _) _⟩, ⟨_, Z0.out, rfl⟩⟩
      case round =>
        clear Z0
        obtain ⟨i, rfl, hi, BV, CS⟩ := hrel
        by_cases hlt8 : i < 8
        · obtain ⟨cs, hh, hcs⟩ := CS.out
          have hc8 : cs.size = 8 := by rw [← Array.length_toList, hcs]; exact stampC_len _ hi
          have e1 : wr.cell? ⟨rb, 1, none⟩ = some (.int .i64 y.stamp) := ((bcell BV.out).1 rb 1 hl4).trans d1
          have hi8 : i = 0 ∨ i = 1 ∨ i = 2 ∨ i = 3 ∨ i = 4 ∨ i = 5 ∨ i = 6 ∨ i = 7 := by omega
          have f0 : ∀ j, wr.frozen? ⟨w6.heap.size, j, none⟩ = false := fun j => frozen_of_row _ _ j _ _ hh
          have k0 : ∀ j, j < 8 → ∃ v, wr.cell? ⟨w6.heap.size, j, none⟩ = some v := fun j hj => ⟨cs[j]'(by omega), (cell_of_row _ _ j _ _ _ hh).trans (Array.getElem?_eq_getElem (by omega))⟩
          have F0 := Asd.mk f0
          have K0 := Asd.mk k0
          have HH := Asd.mk hh
          have HC := Asd.mk hcs
          clear f0 k0 hh hcs hc8 CS hi
          rcases hi8 with rfl | rfl | rfl | rfl | rfl | rfl | rfl | rfl
          · have g1 := F0.out 0
            obtain ⟨v0, g2⟩ := K0.out 0 (by omega)
            go_wp2_with fail
            go_roundw
            case measure => simp [intOf]
            case rel => exact ⟨1, by go_num, by omega, ⟨BV.out.setCell (p := ⟨w6.heap.size, 0, none⟩) (Nat.le_refl _) _⟩, ⟨_, put_row HH.out _ _, by rw [Array.toList_setIfInBounds, HC.out]; rfl⟩⟩
          · have g1 := F0.out 1
            obtain ⟨v0, g2⟩ := K0.out 1 (by omega)
            go_wp2_with fail
            go_roundw
            case measure => simp [intOf]
            case rel => exact ⟨2, by go_num, by omega, ⟨BV.out.setCell (p := ⟨w6.heap.size, 1, none⟩) (Nat.le_refl _) _⟩, ⟨_, put_row HH.out _ _, by rw [Array.toList_setIfInBounds, HC.out]; rfl⟩⟩
          · have g1 := F0.out 2
            obtain ⟨v0, g2⟩ := K0.out 2 (by omega)
            go_wp2_with fail
            go_roundw
            case measure => simp [intOf]
            case rel => exact ⟨3, by go_num, by omega, ⟨BV.out.setCell (p := ⟨w6.heap.size, 2, none⟩) (Nat.le_refl _) _⟩, ⟨_, put_row HH.out _ _, by rw [Array.toList_setIfInBounds, HC.out]; rfl⟩⟩
          · have g1 := F0.out 3
            obtain ⟨v0, g2⟩ := K0.out 3 (by omega)
            go_wp2_with fail
            go_roundw
            case measure => simp [intOf]
            case rel => exact ⟨4, by go_num, by omega, ⟨BV.out.setCell (p := ⟨w6.heap.size, 3, none⟩) (Nat.le_refl _) _⟩, ⟨_, put_row HH.out _ _, by rw [Array.toList_setIfInBounds, HC.out]; rfl⟩⟩
          · have g1 := F0.out 4
            obtain ⟨v0, g2⟩ := K0.out 4 (by omega)
            go_wp2_with fail
            go_roundw
            case measure => simp [intOf]
            case rel => exact ⟨5, by go_num, by omega, ⟨BV.out.setCell (p := ⟨w6.heap.size, 4, none⟩) (Nat.le_refl _) _⟩, ⟨_, put_row HH.out _ _, by rw [Array.toList_setIfInBounds, HC.out]; rfl⟩⟩
          · have g1 := F0.out 5
            obtain ⟨v0, g2⟩ := K0.out 5 (by omega)
            go_wp2_with fail
            go_roundw
            case measure => simp [intOf]
            case rel => exact ⟨6, by go_num, by omega, ⟨BV.out.setCell (p := ⟨w6.heap.size, 5, none⟩) (Nat.le_refl _) _⟩, ⟨_, put_row HH.out _ _, by rw [Array.toList_setIfInBounds, HC.out]; rfl⟩⟩
          · have g1 := F0.out 6
            obtain ⟨v0, g2⟩ := K0.out 6 (by omega)
            go_wp2_with fail
            go_roundw
            case measure => simp [intOf]
            case rel => exact ⟨7, by go_num, by omega, ⟨BV.out.setCell (p := ⟨w6.heap.size, 6, none⟩) (Nat.le_refl _) _⟩, ⟨_, put_row HH.out _ _, by rw [Array.toList_setIfInBounds, HC.out]; rfl⟩⟩
          · have g1 := F0.out 7
            obtain ⟨v0, g2⟩ := K0.out 7 (by omega)
            go_wp2_with fail
            go_roundw
            case measure => simp [intOf]
            case rel => exact ⟨8, by go_num, by omega, ⟨BV.out.setCell (p := ⟨w6.heap.size, 7, none⟩) (Nat.le_refl _) _⟩, ⟨_, put_row HH.out _ _, by rw [Array.toList_setIfInBounds, HC.out]; rfl⟩⟩
        · have hi8 : i = 8 := by omega
          obtain ⟨cs, hh, hcs⟩ := CS.out
          rw [hi8] at hcs
          have XS : Asd (∀ W : World, Below wr.heap.size wr W → Rd W.heap.size 5 W 1 (some ⟨w6.heap.size, 0, none⟩) 8 8 ((stampL y.stamp).flatMap vEnc)) := ⟨fun W hW => stamp_rd hh hcs hW⟩
          have B7 := Asd.mk (B4.out.trans (BV.out.mono B4.out.size))
          have e2 : wr.cell? ⟨rb, 2, none⟩ = some (.string y.val) := ((bcell BV.out).1 rb 2 hl4).trans d2
          have S1 : Asd (∀ W : World, Below wr.heap.size wr W → Calls Try.prog 45 #[.int .u64 x2, .slice (some ⟨w6.heap.size, 0, none⟩) 8 8] W fun e w' => e = .returned (.int .u64 (sumD x2 (stampL y.stamp))) ∧ w' = W) := ⟨fun W hW => sumB_calls (XS.out W hW) (by omega) x2⟩
          have S2 : Asd (∀ (W : World) (z : Int), Calls Try.prog 44 #[.int .u64 z, .string y.val] W fun e w' => e = .returned (.int .u64 (sumD z (byteL y.val))) ∧ w' = W) := ⟨fun W z => sum_calls z y.val Y2.out W⟩
          have S3 : Asd (∀ (W : World) (z : Int), Calls Try.prog 44 #[.int .u64 z, .string ⟨#[1]⟩] W fun e w' => e = .returned (.int .u64 (sumD z (byteL ⟨#[1]⟩))) ∧ w' = W) := ⟨fun W z => sum_calls z ⟨#[1]⟩ (by decide) W⟩
          clear hh hcs CS hi8 d0 d1 d2
          go_wp2_with fail
          go_quiet (first
            | (go_at_call 45; exact Calls.quiet_of_same (S1.out _ (below_dn _ _)))
            | (go_at_call_of 44 (Value.string y.val); exact Calls.quiet_of_same (S2.out _ _))
            | (go_at_call 44; exact Calls.quiet_of_same (S3.out _ _)))
          have B8 := Asd.mk (B7.out.trans (below_dn (B := w.heap.size) wr nq))
          clear e2
          generalize wr.drewN nq = w8 at *
          go_wp2_with fail
          go_roundw
          case measure => simp [intOf]; omega
          case rel => exact ⟨_, k + 1, rfl, by go_num, by omega, B8, ⟨by rw [TK.out, digP_snoc, ← DX.out]; unfold digR; rw [← XD2.out]⟩⟩
    · have R2 : Asd (x = digP l) := ⟨by
        have h := DX.out
        rwa [List.take_of_length_le (by have := N.out; omega)] at h⟩
      go_wp2_with fail
      go_ret
      exact ⟨by rw [← R2.out]; rfl, BW.out⟩
end Go.Proofs.Ytgiajfgeplekbaa

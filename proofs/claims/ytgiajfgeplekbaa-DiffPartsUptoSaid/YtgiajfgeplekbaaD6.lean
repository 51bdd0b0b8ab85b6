/- diff.Diff: what is to be put, what dropped. -/
import Derived.Test.YtgiajfgeplekbaaD5
import Derived.Test.YtgiajfgeplekbaaD7a
set_option linter.unusedVariables false
set_option linter.unusedSimpArgs false
namespace Go.Proofs.Ytgiajfgeplekbaa
open Go.RowKit

theorem find1_calls (x : ByteArray) (w : World) (r : Rw) :
    Calls Try.prog 54 #[.agg r.enc.toArray, .string x] w fun e w' => e = .returned (.int .i64 (Lib.compareBytes r.key.data.toList x.data.toList)) ∧ Below w.heap.size w w' := by
  unfold Rw.enc
  go_enter Try.func54, Try.ntmps54
  go_wp2_with (go_at_call 50; refine (strings_Compare _ _ _).mono ?_; rintro e w' ⟨rfl, rfl⟩)
  go_ret
  exact ⟨rfl, (Below.refl _ _).alloc (Nat.le_refl _) _⟩

theorem find_calls {base : Nat} {w : World} {A : Option Addr} {n c : Nat} {l : List Rw} (hr : Rd base 29 w 3 A n c (rowCells l)) (hn : n ≤ 1000000) (hs : Sorted l) (x : ByteArray) :
    Calls Try.prog 36 #[.slice A n c, .string x] w fun e w' => e = .returned (.tuple #[.int .i64 (pos x l), .bool (there x l)]) ∧ Below w.heap.size w w' := by
  have hb := bsearch (base := base) (T := 29) 54 (enters_of Try.func54 (by kernel_rfl) rfl) x w (fun W r => find1_calls x W r) A n c l hr (hr.count (enc := Rw.enc) (fun _ => rfl) (by omega)) (by omega) hs
  have HB := Asd.mk hb
  clear hr hb hs
  go_enter Try.func36, Try.ntmps36
  go_wp2_with fail
  refine HB.out.mono ?_
  rintro e w' ⟨rfl, hb'⟩
  go_wp2_with fail
  go_ret2
  exact ⟨rfl, hb'⟩

/-- cmp.Or of two. -/
theorem Or2_calls (x y : Int) (w : World) (b : Nat) (h0 : w.cell? ⟨b, 0, none⟩ = some (.int .i64 x)) (h1 : w.cell? ⟨b, 1, none⟩ = some (.int .i64 y)) :
    Calls Try.prog 34 #[.slice (some ⟨b, 0, none⟩) 2 2] w fun e w' => e = .returned (.int .i64 (if x = 0 then y else x)) ∧ Below w.heap.size w w' := by
  by_cases hx : x = 0
  · subst hx
    rw [if_pos rfl]
    by_cases hy : y = 0
    · subst hy
      go_enter Try.func34, Try.ntmps34
      go_wp2_with fail
      go_loopw [5, 8] (fun _ s8 wr => ∃ k : Nat, s8 = .int .i64 k ∧ k ≤ 2 ∧ Asd (wr = w)) (fun _ s8 _ => 2 - (intOf s8).toNat)
      case atStart => exact ⟨0, rfl, by omega, ⟨by simp⟩⟩
      case round =>
        obtain ⟨k, rfl, hk, hwr⟩ := hrel
        obtain rfl := hwr.out
        by_cases hk0 : k = 0
        · subst hk0
          go_wp2_with fail
          go_roundw
          case measure => simp [intOf]
          case rel => exact ⟨1, by go_num, by omega, ⟨by simp⟩⟩
        · by_cases hk1 : k = 1
          · subst hk1
            go_wp2_with fail
            go_roundw
            case measure => simp [intOf]
            case rel => exact ⟨2, by go_num, by omega, ⟨by simp⟩⟩
          · obtain rfl : k = 2 := by omega
            go_wp2_with fail
            go_ret
            exact ⟨rfl, Below.refl _ _⟩
    · have hy' : (y == 0) = false := by simpa using hy
      have hy2 : (y != 0) = true := by simpa using hy
      go_enter Try.func34, Try.ntmps34
      go_wp2_with fail
      go_loopw [5, 8] (fun _ s8 wr => ∃ k : Nat, s8 = .int .i64 k ∧ k ≤ 1 ∧ Asd (wr = w)) (fun _ s8 _ => 2 - (intOf s8).toNat)
      case atStart => exact ⟨0, rfl, by omega, ⟨by simp⟩⟩
      case round =>
        obtain ⟨k, rfl, hk, hwr⟩ := hrel
        obtain rfl := hwr.out
        by_cases hk0 : k = 0
        · subst hk0
          go_wp2_with fail
          go_roundw
          case measure => simp [intOf]
          case rel => exact ⟨1, by go_num, by omega, ⟨by simp⟩⟩
        · obtain rfl : k = 1 := by omega
          go_wp2_with fail
          go_ret
          exact ⟨rfl, Below.refl _ _⟩
  · rw [if_neg hx]
    have hx' : (x == 0) = false := by simpa using hx
    have hx2 : (x != 0) = true := by simpa using hx
    go_enter Try.func34, Try.ntmps34
    go_wp2_with fail
    go_loopw [5, 8] (fun _ s8 wr => s8 = .int .i64 0 ∧ Asd (wr = w)) (fun _ s8 _ => 2 - (intOf s8).toNat)
    case atStart => exact ⟨rfl, ⟨by simp⟩⟩
    case round =>
      obtain ⟨rfl, hwr⟩ := hrel
      obtain rfl := hwr.out
      go_wp2_with fail
      go_ret
      exact ⟨rfl, Below.refl _ _⟩
theorem two_errs (w : World) (x y : Int) : (w.alloc (.cells #[.int .i64 x, .int .i64 y] 25)).cell? ⟨w.heap.size, 0, none⟩ = some (.int .i64 x) ∧ (w.alloc (.cells #[.int .i64 x, .int .i64 y] 25)).cell? ⟨w.heap.size, 1, none⟩ = some (.int .i64 y) :=
  ⟨(cell_of_row _ _ 0 _ _ _ (heap_alloc_new w _)).trans rfl, (cell_of_row _ _ 1 _ _ _ (heap_alloc_new w _)).trans rfl⟩

end Go.Proofs.Ytgiajfgeplekbaa

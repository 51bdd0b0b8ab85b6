/- diff.sum over a text, over bytes. -/
import Derived.Test.YtgiajfgeplekbaaP3
set_option linter.unusedVariables false
set_option linter.unusedSimpArgs false
namespace Go.Proofs.Ytgiajfgeplekbaa
open Go.RowKit

/-- A byte goes into a digest. -/
def stepD (x v : Int) : Int := IntKind.u64.wrap (bits BinOp.xor .u64 x (IntKind.u64.wrap v) * 1099511628211)
def byteL (s : ByteArray) : List Int := s.data.toList.map fun b => (b.toNat : Int)
def sumD (x : Int) (l : List Int) : Int := l.foldl stepD x
theorem sumD_snoc (x : Int) (l : List Int) (v : Int) : sumD x (l ++ [v]) = stepD (sumD x l) v := by simp [sumD]
theorem byteL_len (s : ByteArray) : (byteL s).length = s.size := by unfold byteL; rw [List.length_map, Array.length_toList]; rfl

theorem byteL_get (s : ByteArray) {k : Nat} (h : k < s.size) (h2 : k < (byteL s).length) : (byteL s)[k] = (s[k].toNat : Int) := by
  simp only [byteL, List.getElem_map, Array.getElem_toList]
  rfl

set_option maxHeartbeats 4000000 in
set_option maxRecDepth 100000 in
theorem sum_calls (x0 : Int) (s : ByteArray) (hs : s.size ≤ 9223372036854775807) (w : World) :
    Calls Try.prog 44 #[.int .u64 x0, .string s] w fun e w' => e = .returned (.int .u64 (sumD x0 (byteL s))) ∧ w' = w := by
  go_enter Try.func44, Try.ntmps44
  go_wp2_with fail
  go_loopw [0, 8] (fun s0 s8 wr => ∃ (x : Int) (k : Nat), s0 = .int .u64 x ∧ s8 = .int .i64 k ∧ k ≤ s.size ∧ Asd (wr = w) ∧ Asd (x = sumD x0 ((byteL s).take k))) (fun _ s8 _ => s.size - (intOf s8).toNat)
  case atStart => exact ⟨x0, 0, rfl, rfl, Nat.zero_le _, ⟨rfl⟩, ⟨rfl⟩⟩
  case round =>
    obtain ⟨x, k, rfl, rfl, hk, HW, X⟩ := hrel
    by_cases hlt : k < s.size
    · have hkl : k < (byteL s).length := by rw [byteL_len]; exact hlt
      have hstep : stepD x (s[k].toNat : Int) = sumD x0 ((byteL s).take (k + 1)) := by
        rw [List.take_succ_eq_append_getElem hkl, sumD_snoc, ← X.out, byteL_get s hlt hkl]
      have ST := Asd.mk hstep
      clear hstep
      go_wp2_with fail
      go_roundw
      case measure => simp [intOf]; omega
      case rel => exact ⟨_, k + 1, rfl, by go_num, by omega, HW, ⟨ST.out⟩⟩
    · have hke : k = s.size := by omega
      have R : Asd (x = sumD x0 (byteL s)) := ⟨by
        have h := X.out
        rwa [List.take_of_length_le (by rw [byteL_len]; omega)] at h⟩
      have hw := HW.out
      clear hke X
      go_wp2_with fail
      go_ret
      exact ⟨by rw [← R.out]; rfl, by first | exact HW.out | rfl⟩

def vEnc (v : Int) : List Value := [.int .u8 v]
set_option maxHeartbeats 4000000 in
set_option maxRecDepth 100000 in
theorem sumB_calls {base : Nat} {w : World} {A : Option Addr} {n c : Nat} {l : List Int} (hr : Rd base 5 w 1 A n c (l.flatMap vEnc)) (hbig : n ≤ 1000000) (x0 : Int) :
    Calls Try.prog 45 #[.int .u64 x0, .slice A n c] w fun e w' => e = .returned (.int .u64 (sumD x0 l)) ∧ w' = w := by
  have hn := hr.count (enc := vEnc) (fun _ => rfl) (by omega)
  have R := Asd.mk hr
  have N := Asd.mk hn
  clear hr hn
  go_enter Try.func45, Try.ntmps45
  go_wp2_with fail
  go_loopw [0, 8] (fun s0 s8 wr => ∃ (x : Int) (k : Nat), s0 = .int .u64 x ∧ s8 = .int .i64 k ∧ k ≤ n ∧ Asd (wr = w) ∧ Asd (x = sumD x0 (l.take k))) (fun _ s8 _ => n - (intOf s8).toNat)
  case atStart => exact ⟨x0, 0, rfl, rfl, Nat.zero_le _, ⟨rfl⟩, ⟨rfl⟩⟩
  case round =>
    obtain ⟨x, k, rfl, rfl, hk, HW, X⟩ := hrel
    obtain rfl := HW.out
    by_cases hlt : k < n
    · obtain ⟨b, off, rfl, hb, hkl, hcs⟩ := R.out.at_enc (enc := vEnc) (fun _ => rfl) (by omega) hlt
      have hcap : k < c := Nat.lt_of_lt_of_le hlt R.out.cap
      have c0 : wr.cell? ⟨b, off + k, none⟩ = some (.int .u8 l[k]) := by simpa using hcs 0 _ rfl
      have hstep : stepD x l[k] = sumD x0 (l.take (k + 1)) := by rw [List.take_succ_eq_append_getElem hkl, sumD_snoc, ← X.out]
      generalize l[k] = v at c0 hstep
      have ST := Asd.mk hstep
      clear hstep hcs
      go_wp2_with fail
      go_roundw
      case measure => simp [intOf]; omega
      case rel => exact ⟨_, k + 1, rfl, by go_num, by omega, ⟨by simp⟩, ⟨ST.out⟩⟩
    · have hke : k = n := by omega
      have R2 : Asd (x = sumD x0 l) := ⟨by
        have h := X.out
        rwa [List.take_of_length_le (by have := N.out; omega)] at h⟩
      clear hke X
      go_wp2_with fail
      go_ret
      exact ⟨by rw [← R2.out]; rfl, rfl⟩
end Go.Proofs.Ytgiajfgeplekbaa

/- How fields are read: code.unlow, field, Decode. -/
import Derived.Test.YtallnibjmffahaaGreatDoorJ10
set_option linter.unusedVariables false
set_option linter.unusedSimpArgs false
namespace Go.Proofs.YtallnibjmffahaaGreatDoor
open Go.RowKit

/-- A number out of its bytes, the lowest first. -/
def valB : List UInt8 → Nat
  | [] => 0
  | b :: l => b.toNat + 256 * valB l
theorem valB_lt (l : List UInt8) : valB l < 256 ^ l.length := by
  induction l with
  | nil => simp [valB]
  | cons b l ih =>
    have := b.toNat_lt
    simp only [valB, List.length_cons, Nat.pow_succ]
    omega
set_option maxRecDepth 100000 in
theorem bits_or8 (a b : Nat) (ha : a * 256 < 18446744073709551616) (hb : b < 256) : bits .or .u64 (((a : Int) * 256)) (b : Int) = ((a * 256 + b : Nat) : Int) := by
  have e : ((a : Int) * 256) = ((a * 256 : Nat) : Int) := by omega
  rw [e]
  unfold bits
  have h1 : (BitVec.ofInt IntKind.u64.bits ((a * 256 : Nat) : Int)) = BitVec.ofNat 64 (a * 256) := BitVec.ofInt_natCast _ _
  have h2 : (BitVec.ofInt IntKind.u64.bits (b : Int)) = BitVec.ofNat 64 b := BitVec.ofInt_natCast _ _
  simp only
  rw [h1, h2]
  have h3 : (BitVec.ofNat 64 (a * 256) ||| BitVec.ofNat 64 b).toNat = a * 256 + b := by
    rw [BitVec.toNat_or, BitVec.toNat_ofNat, BitVec.toNat_ofNat, Nat.mod_eq_of_lt (by omega), Nat.mod_eq_of_lt (by omega)]
    have := Nat.two_pow_add_eq_or_of_lt (i := 8) (b := b) (by omega) a
    rw [Nat.mul_comm a 256]
    exact this.symm
  have h4 : ((BitVec.ofNat 64 (a * 256) ||| BitVec.ofNat 64 b).toNat : Int) = ((a * 256 + b : Nat) : Int) := by rw [h3]
  show IntKind.u64.wrap _ = _
  have h5 : a * 256 + b < 18446744073709551616 := by omega
  refine Eq.trans (congrArg IntKind.u64.wrap h4) ?_
  clear h1 h2 h3 h4 e
  generalize a * 256 + b = c at h5
  unfold IntKind.wrap
  simp only [IntKind.bits, IntKind.signed, Bool.false_and, Bool.false_eq_true, if_false]
  omega
theorem wrap_u64 {x : Nat} (h : x < 18446744073709551616) : IntKind.u64.wrap (x : Int) = x := by
  unfold IntKind.wrap
  simp only [IntKind.bits, IntKind.signed, Bool.false_and, Bool.false_eq_true, if_false]
  omega
def byL (s : ByteArray) : List UInt8 := s.data.toList
theorem byL_len (s : ByteArray) : (byL s).length = s.size := by unfold byL; rw [Array.length_toList]; rfl

set_option maxHeartbeats 4000000 in
set_option maxRecDepth 100000 in
theorem unlow_calls (s : ByteArray) (hs : s.size ≤ 8) (w : World) :
    Calls Tryz.prog 67 #[.string s] w fun e w' => e = .returned (.int .u64 (valB (byL s) : Nat)) ∧ w' = w := by
  go_enter Tryz.func67, Tryz.ntmps67
  go_wp2_with fail
  go_loopw [2, 3] (fun s2 s3 wr => ∃ (i n : Nat), s3 = .int .i64 ((i : Int) - 1) ∧ s2 = .int .u64 n ∧ i ≤ s.size ∧ Asd (n = valB ((byL s).drop i)) ∧ Asd (wr = w)) (fun _ s3 _ => (intOf s3 + 1).toNat)
  case atStart => exact ⟨s.size, 0, by go_num, rfl, Nat.le_refl _, ⟨by rw [List.drop_of_length_le (by rw [byL_len]; omega)]; rfl⟩, ⟨rfl⟩⟩
  case round =>
    obtain ⟨i, n, rfl, rfl, hi, NN, HW⟩ := hrel
    have hw := HW.out
    subst hw
    clear HW
    by_cases hlt : 0 < i
    · obtain ⟨p, rfl⟩ : ∃ p, i = p + 1 := ⟨i - 1, by omega⟩
      have hb : (byL s).drop p = (s[p]'(by omega)) :: (byL s).drop (p + 1) := by
        unfold byL
        rw [List.drop_eq_getElem_cons (by rw [Array.length_toList]; show p < s.size; omega)]
        rfl
      have hn : n < 256 ^ (s.size - (p + 1)) := by
        have := valB_lt ((byL s).drop (p + 1))
        rw [← NN.out, List.length_drop, byL_len] at this
        exact this
      have hn2 : n * 256 < 18446744073709551616 := by
        have h7 : 256 ^ (s.size - (p + 1)) ≤ 256 ^ 7 := Nat.pow_le_pow_right (by omega) (by omega)
        have h8 : (256 : Nat) ^ 7 = 72057594037927936 := by decide
        omega
      have NB : Asd (n * 256 < 18446744073709551616 ∧ (byL s).drop p = (s[p]'(by omega)) :: (byL s).drop (p + 1)) := ⟨hn2, hb⟩
      clear hb hn hn2
      go_wp2_with fail
      go_roundw
      case measure => simp [intOf]
      case rel =>
        refine ⟨p, n * 256 + (s[p]'(by omega)).toNat, rfl, ?_, by omega, ⟨by rw [NB.out.2]; simp only [valB]; rw [← NN.out]; omega⟩, by first | exact ⟨rfl⟩ | exact ⟨trivial⟩⟩
        have hb8 := (s[p]'(by omega)).toNat_lt
        rw [show (n : Int) * 256 = ((n * 256 : Nat) : Int) by omega, wrap_u64 NB.out.1, wrap_u64 (x := (s[p]'(by omega)).toNat) (by omega), show ((n * 256 : Nat) : Int) = (n : Int) * 256 by omega, bits_or8 n _ NB.out.1 (by omega)]
    · obtain rfl : i = 0 := by omega
      go_wp2_with fail
      go_ret
      exact ⟨by rw [NN.out, List.drop_zero]; rfl, by first | rfl | trivial⟩
/-- A field that stands ahead: what is read, what is left, the error. -/
structure FieldP where
  f : FieldR
  rest : ByteArray
  e : Int
def byAt (s : ByteArray) (i : Nat) : Nat := if h : i < s.size then (s[i]'h).toNat else 0
theorem byAt_lt {s : ByteArray} {i : Nat} (h : i < s.size) : (s[i]'h).toNat = byAt s i := by unfold byAt; rw [dif_pos h]
def zeroF : FieldR := ⟨false, 0, ⟨#[]⟩⟩
/-- Behind the kind and the number of the number's bytes. -/
def fieldP2 (k m : Nat) (b : ByteArray) : FieldP :=
  if 8 < m then ⟨zeroF, ⟨#[]⟩, 3⟩
  else if b.size < m then ⟨zeroF, ⟨#[]⟩, 11⟩
  else if 0 < m ∧ byAt b (m - 1) = 0 then ⟨zeroF, ⟨#[]⟩, 3⟩
  else if k = 78 then ⟨⟨false, IntKind.i64.wrap (valB (byL (b.extract 0 m)) : Nat), ⟨#[]⟩⟩, b.extract m b.size, 0⟩
  else if IntKind.i64.wrap (valB (byL (b.extract 0 m)) : Nat) < 0 ∨ 262144 < IntKind.i64.wrap (valB (byL (b.extract 0 m)) : Nat) then ⟨zeroF, ⟨#[]⟩, 3⟩
  else if ((b.extract m b.size).size : Int) < IntKind.i64.wrap (valB (byL (b.extract 0 m)) : Nat) then ⟨zeroF, ⟨#[]⟩, 11⟩
  else ⟨⟨true, 0, (b.extract m b.size).extract 0 (IntKind.i64.wrap (valB (byL (b.extract 0 m)) : Nat)).toNat⟩, (b.extract m b.size).extract (IntKind.i64.wrap (valB (byL (b.extract 0 m)) : Nat)).toNat (b.extract m b.size).size, 0⟩
def fieldP (s : ByteArray) : FieldP :=
  if byAt s 0 ≠ 78 ∧ byAt s 0 ≠ 84 then ⟨zeroF, ⟨#[]⟩, 3⟩
  else if s.size < 2 then ⟨zeroF, ⟨#[]⟩, 11⟩
  else fieldP2 (byAt s 0) (byAt s 1) (s.extract 2 s.size)

def FieldPost (w : World) (p : FieldP) (e : Ending) (w' : World) : Prop := e = .returned (.tuple #[.agg p.f.enc.toArray, .string p.rest, .int .i64 p.e]) ∧ Below w.heap.size w w'
theorem wrapM {m : Nat} (h : m < 256) : wrap64 (m : Int) = m := by unfold wrap64; omega

set_option maxHeartbeats 4000000 in
set_option maxRecDepth 100000 in
theorem field_else (s : ByteArray) (hs : 0 < s.size) (h1 : byAt s 0 ≠ 78) (h2 : byAt s 0 ≠ 84) (w : World) :
    Calls Tryz.prog 48 #[.string s] w (FieldPost w ⟨zeroF, ⟨#[]⟩, 3⟩) := by
  have h0 : (0 : Int) < (s.size : Int) := by omega
  have hal : Asd (Below w.heap.size w (w.alloc (.cells #[.bool false, .int .i64 0, .string ⟨#[]⟩] 94))) := ⟨(Below.refl _ _).alloc (Nat.le_refl _) _⟩
  have hk : (s[0]'hs).toNat = byAt s 0 := byAt_lt hs
  generalize byAt s 0 = k at h1 h2 hk
  have e1 : ¬ (k : Int) = 78 := by omega
  have e2 : ¬ (k : Int) = 84 := by omega
  have e3 : ((k : Int) != 78) = true := by simpa using e1
  have e4 : ((k : Int) != 84) = true := by simpa using e2
  go_enter Tryz.func48, Tryz.ntmps48
  go_wp2_with fail
  refine bodyPost_ret (v := .tuple #[.agg #[.bool false, .int .i64 0, .string ⟨#[]⟩], .string ⟨#[]⟩, .int .i64 3]) (by simp [results, Tryz.results48, go_sem]) rfl ?_
  exact ⟨rfl, hal.out⟩

set_option maxHeartbeats 4000000 in
set_option maxRecDepth 100000 in
theorem field_short (s : ByteArray) (hs : 0 < s.size) (h1 : byAt s 0 = 78 ∨ byAt s 0 = 84) (h2 : s.size < 2) (w : World) :
    Calls Tryz.prog 48 #[.string s] w (FieldPost w ⟨zeroF, ⟨#[]⟩, 11⟩) := by
  have h0 : (0 : Int) < (s.size : Int) := by omega
  have h3 : (s.size : Int) < 2 := by omega
  have hal : Asd (Below w.heap.size w (w.alloc (.cells #[.bool false, .int .i64 0, .string ⟨#[]⟩] 94))) := ⟨(Below.refl _ _).alloc (Nat.le_refl _) _⟩
  have hk : (s[0]'hs).toNat = byAt s 0 := byAt_lt hs
  generalize byAt s 0 = k at h1 hk
  clear h2
  rcases h1 with rfl | rfl
  all_goals
    go_enter Tryz.func48, Tryz.ntmps48
    go_wp2_with fail
    refine bodyPost_ret (v := .tuple #[.agg #[.bool false, .int .i64 0, .string ⟨#[]⟩], .string ⟨#[]⟩, .int .i64 11]) (by simp [results, Tryz.results48, go_sem]) rfl ?_
    exact ⟨rfl, hal.out⟩

set_option maxHeartbeats 4000000 in
set_option maxRecDepth 100000 in
theorem field_num (s : ByteArray) (hs : 2 ≤ s.size) (h1 : byAt s 0 = 78 ∨ byAt s 0 = 84) {m : Nat} (hm : byAt s 1 = m) {b : ByteArray} (hb : s.extract 2 s.size = b) (h3 : 8 < m) (w : World) :
    Calls Tryz.prog 48 #[.string s] w (FieldPost w ⟨zeroF, ⟨#[]⟩, 3⟩) := by
  have h0 : (0 : Int) < (s.size : Int) := by omega
  have h01 : (1 : Int) < (s.size : Int) := by omega
  have h02 : ¬ (s.size : Int) < 2 := by omega
  have h03 : (2 : Int) ≤ (s.size : Int) := by omega
  have hal : Asd (Below w.heap.size w (w.alloc (.cells #[.bool false, .int .i64 0, .string ⟨#[]⟩] 94))) := ⟨(Below.refl _ _).alloc (Nat.le_refl _) _⟩
  have hk : (s[0]'(by omega)).toNat = byAt s 0 := byAt_lt (by omega)
  have hk1 : (s[1]'(by omega)).toNat = m := (byAt_lt (by omega)).trans hm
  have hm8 : m < 256 := by have := (s[1]'(by omega)).toNat_lt; omega
  have hwm := wrapM hm8
  have h31 : (8 : Int) < (m : Int) := by omega
  generalize byAt s 0 = k at h1 hk
  clear hm
  rcases h1 with rfl | rfl
  all_goals
    go_enter Tryz.func48, Tryz.ntmps48
    go_wp2_with fail
    refine bodyPost_ret (v := .tuple #[.agg #[.bool false, .int .i64 0, .string ⟨#[]⟩], .string ⟨#[]⟩, .int .i64 3]) (by simp [results, Tryz.results48, go_sem]) rfl ?_
    exact ⟨rfl, hal.out⟩
/- leaves -/
set_option maxHeartbeats 4000000 in
set_option maxRecDepth 100000 in
theorem field_few (s : ByteArray) (hs : 2 ≤ s.size) (h1 : byAt s 0 = 78 ∨ byAt s 0 = 84) {m : Nat} (hm : byAt s 1 = m) {b : ByteArray} (hb : s.extract 2 s.size = b) (h3 : ¬ 8 < m) (h4 : b.size < m) (w : World) :
    Calls Tryz.prog 48 #[.string s] w (FieldPost w ⟨zeroF, ⟨#[]⟩, 11⟩) := by
  have h0 : (0 : Int) < (s.size : Int) := by omega
  have h01 : (1 : Int) < (s.size : Int) := by omega
  have h02 : ¬ (s.size : Int) < 2 := by omega
  have h03 : (2 : Int) ≤ (s.size : Int) := by omega
  have hal : Asd (Below w.heap.size w (w.alloc (.cells #[.bool false, .int .i64 0, .string ⟨#[]⟩] 94))) := ⟨(Below.refl _ _).alloc (Nat.le_refl _) _⟩
  have hk : (s[0]'(by omega)).toNat = byAt s 0 := byAt_lt (by omega)
  have hk1 : (s[1]'(by omega)).toNat = m := (byAt_lt (by omega)).trans hm
  have hm8 : m < 256 := by have := (s[1]'(by omega)).toNat_lt; omega
  have HWM := Asd.mk (wrapM hm8)
  clear hm
  have h31 : ¬ (8 : Int) < (m : Int) := by omega
  have h41 : (b.size : Int) < (m : Int) := by omega
  generalize byAt s 0 = k at h1 hk
  rcases h1 with rfl | rfl
  all_goals
    have hwm : ∀ x : Nat, x < 256 → wrap64 (x : Int) = x := fun x h => wrapM h
    go_enter Tryz.func48, Tryz.ntmps48
    go_wp2_with fail
    refine bodyPost_ret (v := .tuple #[.agg #[.bool false, .int .i64 0, .string ⟨#[]⟩], .string ⟨#[]⟩, .int .i64 11]) (by simp [results, Tryz.results48, go_sem]) rfl ?_
    exact ⟨rfl, hal.out⟩

set_option maxHeartbeats 4000000 in
set_option maxRecDepth 100000 in
theorem field_zero (s : ByteArray) (hs : 2 ≤ s.size) (h1 : byAt s 0 = 78 ∨ byAt s 0 = 84) {m : Nat} (hm : byAt s 1 = m) {b : ByteArray} (hb : s.extract 2 s.size = b) (h3 : ¬ 8 < m) (h4 : ¬ b.size < m) (h5 : 0 < m) (h6 : byAt b (m - 1) = 0) (w : World) :
    Calls Tryz.prog 48 #[.string s] w (FieldPost w ⟨zeroF, ⟨#[]⟩, 3⟩) := by
  have h0 : (0 : Int) < (s.size : Int) := by omega
  have h01 : (1 : Int) < (s.size : Int) := by omega
  have h02 : ¬ (s.size : Int) < 2 := by omega
  have h03 : (2 : Int) ≤ (s.size : Int) := by omega
  have hal : Asd (Below w.heap.size w (w.alloc (.cells #[.bool false, .int .i64 0, .string ⟨#[]⟩] 94))) := ⟨(Below.refl _ _).alloc (Nat.le_refl _) _⟩
  have hk : (s[0]'(by omega)).toNat = byAt s 0 := byAt_lt (by omega)
  have hk1 : (s[1]'(by omega)).toNat = m := (byAt_lt (by omega)).trans hm
  have hm8 : m < 256 := by have := (s[1]'(by omega)).toNat_lt; omega
  have HWM := Asd.mk (wrapM hm8)
  clear hm
  have h31 : ¬ (8 : Int) < (m : Int) := by omega
  have h41 : ¬ (b.size : Int) < (m : Int) := by omega
  have h51 : (0 : Int) < (m : Int) := by omega
  have hz : (b[m - 1]'(by omega)).toNat = byAt b (m - 1) := byAt_lt (by omega)
  rw [h6] at hz
  have hix : ((m - 1 : Nat) : Int) < (b.size : Int) := by omega
  have hix2 : m - 1 < b.size := by omega
  have hw1 : ∀ x : Int, x = (m : Int) - 1 → IntKind.i64.wrap x = ((m - 1 : Nat) : Int) := fun x hx => by rw [hx, IntWalk.i64_in _ (by omega)]; omega
  generalize byAt s 0 = k at h1 hk
  rcases h1 with rfl | rfl
  all_goals
    have hwm : ∀ x : Nat, x < 256 → wrap64 (x : Int) = x := fun x h => wrapM h
    go_enter Tryz.func48, Tryz.ntmps48
    go_wp2_with fail
    refine bodyPost_ret (v := .tuple #[.agg #[.bool false, .int .i64 0, .string ⟨#[]⟩], .string ⟨#[]⟩, .int .i64 3]) (by simp [results, Tryz.results48, go_sem]) rfl ?_
    exact ⟨rfl, hal.out⟩

set_option maxHeartbeats 4000000 in
set_option maxRecDepth 100000 in
theorem field_number (s : ByteArray) (hs : 2 ≤ s.size) (h1 : byAt s 0 = 78) {m : Nat} (hm : byAt s 1 = m) {b : ByteArray} (hb : s.extract 2 s.size = b) (h3 : ¬ 8 < m) (h4 : ¬ b.size < m) (h5 : m = 0 ∨ (0 < m ∧ byAt b (m - 1) ≠ 0)) {v : Nat} (hv : valB (byL (b.extract 0 m)) = v) {iv : Int} (hi : IntKind.i64.wrap (v : Int) = iv) {r : ByteArray} (hr : b.extract m b.size = r) (w : World) :
    Calls Tryz.prog 48 #[.string s] w (FieldPost w ⟨⟨false, iv, ⟨#[]⟩⟩, r, 0⟩) := by
  have h0 : (0 : Int) < (s.size : Int) := by omega
  have h01 : (1 : Int) < (s.size : Int) := by omega
  have h02 : ¬ (s.size : Int) < 2 := by omega
  have h03 : (2 : Int) ≤ (s.size : Int) := by omega
  have hal : Asd (Below w.heap.size w (w.alloc (.cells #[.bool false, .int .i64 0, .string ⟨#[]⟩] 94))) := ⟨(Below.refl _ _).alloc (Nat.le_refl _) _⟩
  have hk : (s[0]'(by omega)).toNat = byAt s 0 := byAt_lt (by omega)
  have hk1 : (s[1]'(by omega)).toNat = m := (byAt_lt (by omega)).trans hm
  have hm8 : m < 256 := by have := (s[1]'(by omega)).toNat_lt; omega
  have HWM := Asd.mk (wrapM hm8)
  clear hm
  have HI := Asd.mk hi
  clear hi
  have h31 : ¬ (8 : Int) < (m : Int) := by omega
  have h41 : ¬ (b.size : Int) < (m : Int) := by omega
  have h42 : (m : Int) ≤ (b.size : Int) := by omega
  have hx8 : (b.extract 0 m).size ≤ 8 := by rw [ByteArray.size_extract]; omega
  have UL := Asd.mk (fun W => unlow_calls (b.extract 0 m) hx8 W)
  rw [hv] at UL
  clear hx8 hv
  rw [h1] at hk
  clear h1
  rcases h5 with h5 | ⟨h5, h6⟩
  · have h51 : ¬ (0 : Int) < (m : Int) := by omega
    clear h5
    have hi : ∀ x : Nat, x = v → IntKind.i64.wrap (x : Int) = iv := fun x h => by rw [h]; exact HI.out
    have hwm : ∀ x : Nat, x < 256 → wrap64 (x : Int) = x := fun x h => wrapM h
    go_enter Tryz.func48, Tryz.ntmps48
    go_wp2_with fail
    refine (UL.out _).mono ?_
    rintro e w1 ⟨rfl, hw⟩
    rw [hw]
    clear hw
    go_wp2_with fail
    have hal2 : Below w.heap.size w (w.alloc (.cells #[.bool false, .int .i64 iv, .string ⟨#[]⟩] 94)) := (Below.refl _ _).alloc (Nat.le_refl _) _
    refine bodyPost_ret (v := .tuple #[.agg #[.bool false, .int .i64 iv, .string ⟨#[]⟩], .string r, .int .i64 0]) (by simp [results, Tryz.results48, go_sem]) rfl ?_
    exact ⟨rfl, hal2⟩
  · have h51 : (0 : Int) < (m : Int) := by omega
    have hz : (b[m - 1]'(by omega)).toNat = byAt b (m - 1) := byAt_lt (by omega)
    have hix : ((m - 1 : Nat) : Int) < (b.size : Int) := by omega
    have hix2 : m - 1 < b.size := by omega
    generalize byAt b (m - 1) = z at hz h6
    have hz1 : ¬ (z : Int) = 0 := by omega
    have hz2 : ((z : Int) == 0) = false := by simpa using hz1
    have hw1 : ∀ x : Int, x = (m : Int) - 1 → IntKind.i64.wrap x = ((m - 1 : Nat) : Int) := fun x hx => by rw [hx, IntWalk.i64_in _ (by omega)]; omega
    have hi : ∀ x : Nat, x = v → IntKind.i64.wrap (x : Int) = iv := fun x h => by rw [h]; exact HI.out
    have hwm : ∀ x : Nat, x < 256 → wrap64 (x : Int) = x := fun x h => wrapM h
    go_enter Tryz.func48, Tryz.ntmps48
    go_wp2_with fail
    refine (UL.out _).mono ?_
    rintro e w1 ⟨rfl, hw⟩
    rw [hw]
    clear hw
    go_wp2_with fail
    have hal2 : Below w.heap.size w (w.alloc (.cells #[.bool false, .int .i64 iv, .string ⟨#[]⟩] 94)) := (Below.refl _ _).alloc (Nat.le_refl _) _
    refine bodyPost_ret (v := .tuple #[.agg #[.bool false, .int .i64 iv, .string ⟨#[]⟩], .string r, .int .i64 0]) (by simp [results, Tryz.results48, go_sem]) rfl ?_
    exact ⟨rfl, hal2⟩

set_option maxHeartbeats 4000000 in
set_option maxRecDepth 100000 in
theorem field_badlen (s : ByteArray) (hs : 2 ≤ s.size) (h1 : byAt s 0 = 84) {m : Nat} (hm : byAt s 1 = m) {b : ByteArray} (hb : s.extract 2 s.size = b) (h3 : ¬ 8 < m) (h4 : ¬ b.size < m) (h5 : m = 0 ∨ (0 < m ∧ byAt b (m - 1) ≠ 0)) {v : Nat} (hv : valB (byL (b.extract 0 m)) = v) {iv : Int} (hi : IntKind.i64.wrap (v : Int) = iv) {r : ByteArray} (hr : b.extract m b.size = r) (h7 : iv < 0 ∨ 262144 < iv) (w : World) :
    Calls Tryz.prog 48 #[.string s] w (FieldPost w ⟨zeroF, ⟨#[]⟩, 3⟩) := by
  have h0 : (0 : Int) < (s.size : Int) := by omega
  have h01 : (1 : Int) < (s.size : Int) := by omega
  have h02 : ¬ (s.size : Int) < 2 := by omega
  have h03 : (2 : Int) ≤ (s.size : Int) := by omega
  have hal : Asd (Below w.heap.size w (w.alloc (.cells #[.bool false, .int .i64 0, .string ⟨#[]⟩] 94))) := ⟨(Below.refl _ _).alloc (Nat.le_refl _) _⟩
  have hk : (s[0]'(by omega)).toNat = byAt s 0 := byAt_lt (by omega)
  have hk1 : (s[1]'(by omega)).toNat = m := (byAt_lt (by omega)).trans hm
  have hm8 : m < 256 := by have := (s[1]'(by omega)).toNat_lt; omega
  have HWM := Asd.mk (wrapM hm8)
  clear hm
  have HI := Asd.mk hi
  clear hi
  have h31 : ¬ (8 : Int) < (m : Int) := by omega
  have h41 : ¬ (b.size : Int) < (m : Int) := by omega
  have h42 : (m : Int) ≤ (b.size : Int) := by omega
  have hx8 : (b.extract 0 m).size ≤ 8 := by rw [ByteArray.size_extract]; omega
  have UL := Asd.mk (fun W => unlow_calls (b.extract 0 m) hx8 W)
  rw [hv] at UL
  clear hx8 hv
  rw [h1] at hk
  clear h1
  rcases h5 with h5 | ⟨h5, h6⟩
  · have h51 : ¬ (0 : Int) < (m : Int) := by omega
    clear h5
    have hi : ∀ x : Nat, x = v → IntKind.i64.wrap (x : Int) = iv := fun x h => by rw [h]; exact HI.out
    have hwm : ∀ x : Nat, x < 256 → wrap64 (x : Int) = x := fun x h => wrapM h
    go_enter Tryz.func48, Tryz.ntmps48
    rcases h7 with h7 | h7
    all_goals
      go_wp2_with fail
      refine (UL.out _).mono ?_
      rintro e w1 ⟨rfl, hw⟩
      rw [hw]
      clear hw
      go_wp2_with fail
      refine bodyPost_ret (v := .tuple #[.agg #[.bool false, .int .i64 0, .string ⟨#[]⟩], .string ⟨#[]⟩, .int .i64 3]) (by simp [results, Tryz.results48, go_sem]) rfl ?_
      exact ⟨rfl, hal.out⟩
  · have h51 : (0 : Int) < (m : Int) := by omega
    have hz : (b[m - 1]'(by omega)).toNat = byAt b (m - 1) := byAt_lt (by omega)
    have hix : ((m - 1 : Nat) : Int) < (b.size : Int) := by omega
    have hix2 : m - 1 < b.size := by omega
    generalize byAt b (m - 1) = z at hz h6
    have hz1 : ¬ (z : Int) = 0 := by omega
    have hz2 : ((z : Int) == 0) = false := by simpa using hz1
    have hw1 : ∀ x : Int, x = (m : Int) - 1 → IntKind.i64.wrap x = ((m - 1 : Nat) : Int) := fun x hx => by rw [hx, IntWalk.i64_in _ (by omega)]; omega
    have hi : ∀ x : Nat, x = v → IntKind.i64.wrap (x : Int) = iv := fun x h => by rw [h]; exact HI.out
    have hwm : ∀ x : Nat, x < 256 → wrap64 (x : Int) = x := fun x h => wrapM h
    go_enter Tryz.func48, Tryz.ntmps48
    rcases h7 with h7 | h7
    all_goals
      go_wp2_with fail
      refine (UL.out _).mono ?_
      rintro e w1 ⟨rfl, hw⟩
      rw [hw]
      clear hw
      go_wp2_with fail
      refine bodyPost_ret (v := .tuple #[.agg #[.bool false, .int .i64 0, .string ⟨#[]⟩], .string ⟨#[]⟩, .int .i64 3]) (by simp [results, Tryz.results48, go_sem]) rfl ?_
      exact ⟨rfl, hal.out⟩

set_option maxHeartbeats 4000000 in
set_option maxRecDepth 100000 in
theorem field_end (s : ByteArray) (hs : 2 ≤ s.size) (h1 : byAt s 0 = 84) {m : Nat} (hm : byAt s 1 = m) {b : ByteArray} (hb : s.extract 2 s.size = b) (h3 : ¬ 8 < m) (h4 : ¬ b.size < m) (h5 : m = 0 ∨ (0 < m ∧ byAt b (m - 1) ≠ 0)) {v : Nat} (hv : valB (byL (b.extract 0 m)) = v) {iv : Int} (hi : IntKind.i64.wrap (v : Int) = iv) {r : ByteArray} (hr : b.extract m b.size = r) (h7 : 0 ≤ iv ∧ iv ≤ 262144) (h8 : (r.size : Int) < iv) (w : World) :
    Calls Tryz.prog 48 #[.string s] w (FieldPost w ⟨zeroF, ⟨#[]⟩, 11⟩) := by
  have h0 : (0 : Int) < (s.size : Int) := by omega
  have h01 : (1 : Int) < (s.size : Int) := by omega
  have h02 : ¬ (s.size : Int) < 2 := by omega
  have h03 : (2 : Int) ≤ (s.size : Int) := by omega
  have hal : Asd (Below w.heap.size w (w.alloc (.cells #[.bool false, .int .i64 0, .string ⟨#[]⟩] 94))) := ⟨(Below.refl _ _).alloc (Nat.le_refl _) _⟩
  have hk : (s[0]'(by omega)).toNat = byAt s 0 := byAt_lt (by omega)
  have hk1 : (s[1]'(by omega)).toNat = m := (byAt_lt (by omega)).trans hm
  have hm8 : m < 256 := by have := (s[1]'(by omega)).toNat_lt; omega
  have HWM := Asd.mk (wrapM hm8)
  clear hm
  have HI := Asd.mk hi
  clear hi
  have h31 : ¬ (8 : Int) < (m : Int) := by omega
  have h41 : ¬ (b.size : Int) < (m : Int) := by omega
  have h42 : (m : Int) ≤ (b.size : Int) := by omega
  have hx8 : (b.extract 0 m).size ≤ 8 := by rw [ByteArray.size_extract]; omega
  have UL := Asd.mk (fun W => unlow_calls (b.extract 0 m) hx8 W)
  rw [hv] at UL
  clear hx8 hv
  have h70 : ¬ iv < 0 := by omega
  have h71 : ¬ 262144 < iv := by omega
  rw [h1] at hk
  clear h1
  rcases h5 with h5 | ⟨h5, h6⟩
  · have h51 : ¬ (0 : Int) < (m : Int) := by omega
    clear h5
    have hi : ∀ x : Nat, x = v → IntKind.i64.wrap (x : Int) = iv := fun x h => by rw [h]; exact HI.out
    have hwm : ∀ x : Nat, x < 256 → wrap64 (x : Int) = x := fun x h => wrapM h
    go_enter Tryz.func48, Tryz.ntmps48
    go_wp2_with fail
    refine (UL.out _).mono ?_
    rintro e w1 ⟨rfl, hw⟩
    rw [hw]
    clear hw
    go_wp2_with fail
    refine bodyPost_ret (v := .tuple #[.agg #[.bool false, .int .i64 0, .string ⟨#[]⟩], .string ⟨#[]⟩, .int .i64 11]) (by simp [results, Tryz.results48, go_sem]) rfl ?_
    exact ⟨rfl, hal.out⟩
  · have h51 : (0 : Int) < (m : Int) := by omega
    have hz : (b[m - 1]'(by omega)).toNat = byAt b (m - 1) := byAt_lt (by omega)
    have hix : ((m - 1 : Nat) : Int) < (b.size : Int) := by omega
    have hix2 : m - 1 < b.size := by omega
    generalize byAt b (m - 1) = z at hz h6
    have hz1 : ¬ (z : Int) = 0 := by omega
    have hz2 : ((z : Int) == 0) = false := by simpa using hz1
    have hw1 : ∀ x : Int, x = (m : Int) - 1 → IntKind.i64.wrap x = ((m - 1 : Nat) : Int) := fun x hx => by rw [hx, IntWalk.i64_in _ (by omega)]; omega
    have hi : ∀ x : Nat, x = v → IntKind.i64.wrap (x : Int) = iv := fun x h => by rw [h]; exact HI.out
    have hwm : ∀ x : Nat, x < 256 → wrap64 (x : Int) = x := fun x h => wrapM h
    go_enter Tryz.func48, Tryz.ntmps48
    go_wp2_with fail
    refine (UL.out _).mono ?_
    rintro e w1 ⟨rfl, hw⟩
    rw [hw]
    clear hw
    go_wp2_with fail
    refine bodyPost_ret (v := .tuple #[.agg #[.bool false, .int .i64 0, .string ⟨#[]⟩], .string ⟨#[]⟩, .int .i64 11]) (by simp [results, Tryz.results48, go_sem]) rfl ?_
    exact ⟨rfl, hal.out⟩

set_option maxHeartbeats 4000000 in
set_option maxRecDepth 100000 in
theorem field_text (s : ByteArray) (hs : 2 ≤ s.size) (h1 : byAt s 0 = 84) {m : Nat} (hm : byAt s 1 = m) {b : ByteArray} (hb : s.extract 2 s.size = b) (h3 : ¬ 8 < m) (h4 : ¬ b.size < m) (h5 : m = 0 ∨ (0 < m ∧ byAt b (m - 1) ≠ 0)) {v : Nat} (hv : valB (byL (b.extract 0 m)) = v) {iv : Int} (hi : IntKind.i64.wrap (v : Int) = iv) {r : ByteArray} (hr : b.extract m b.size = r) (h7 : 0 ≤ iv ∧ iv ≤ 262144) (h8 : iv ≤ (r.size : Int)) (w : World) :
    Calls Tryz.prog 48 #[.string s] w (FieldPost w ⟨⟨true, 0, r.extract 0 iv.toNat⟩, r.extract iv.toNat r.size, 0⟩) := by
  have h0 : (0 : Int) < (s.size : Int) := by omega
  have h01 : (1 : Int) < (s.size : Int) := by omega
  have h02 : ¬ (s.size : Int) < 2 := by omega
  have h03 : (2 : Int) ≤ (s.size : Int) := by omega
  have hal : Asd (Below w.heap.size w (w.alloc (.cells #[.bool false, .int .i64 0, .string ⟨#[]⟩] 94))) := ⟨(Below.refl _ _).alloc (Nat.le_refl _) _⟩
  have hk : (s[0]'(by omega)).toNat = byAt s 0 := byAt_lt (by omega)
  have hk1 : (s[1]'(by omega)).toNat = m := (byAt_lt (by omega)).trans hm
  have hm8 : m < 256 := by have := (s[1]'(by omega)).toNat_lt; omega
  have HWM := Asd.mk (wrapM hm8)
  clear hm
  have HI := Asd.mk hi
  clear hi
  have h31 : ¬ (8 : Int) < (m : Int) := by omega
  have h41 : ¬ (b.size : Int) < (m : Int) := by omega
  have h42 : (m : Int) ≤ (b.size : Int) := by omega
  have hx8 : (b.extract 0 m).size ≤ 8 := by rw [ByteArray.size_extract]; omega
  have UL := Asd.mk (fun W => unlow_calls (b.extract 0 m) hx8 W)
  rw [hv] at UL
  clear hx8 hv
  have h70 : ¬ iv < 0 := by omega
  have h71 : ¬ 262144 < iv := by omega
  have h81 : ¬ (r.size : Int) < iv := by omega
  have h82 : iv ≤ (r.size : Int) := by omega
  have h83 : (0 : Int) ≤ iv := by omega
  rw [h1] at hk
  clear h1
  rcases h5 with h5 | ⟨h5, h6⟩
  · have h51 : ¬ (0 : Int) < (m : Int) := by omega
    clear h5
    have hi : ∀ x : Nat, x = v → IntKind.i64.wrap (x : Int) = iv := fun x h => by rw [h]; exact HI.out
    have hwm : ∀ x : Nat, x < 256 → wrap64 (x : Int) = x := fun x h => wrapM h
    go_enter Tryz.func48, Tryz.ntmps48
    go_wp2_with fail
    refine (UL.out _).mono ?_
    rintro e w1 ⟨rfl, hw⟩
    rw [hw]
    clear hw
    go_upto_region 22 with fail
    go_region
    all_goals
      have hal2 : Below w.heap.size w (w.alloc (.cells #[.bool true, .int .i64 0, .string (r.extract 0 iv.toNat)] 94)).drew := ((Below.refl _ _).alloc (Nat.le_refl _) _).drew
      go_wp2_with fail
      refine bodyPost_ret (v := .tuple #[.agg #[.bool true, .int .i64 0, .string (r.extract 0 iv.toNat)], .string (r.extract iv.toNat r.size), .int .i64 0]) (by simp [results, Tryz.results48, go_sem]) rfl ?_
      exact ⟨rfl, hal2⟩
  · have h51 : (0 : Int) < (m : Int) := by omega
    have hz : (b[m - 1]'(by omega)).toNat = byAt b (m - 1) := byAt_lt (by omega)
    have hix : ((m - 1 : Nat) : Int) < (b.size : Int) := by omega
    have hix2 : m - 1 < b.size := by omega
    generalize byAt b (m - 1) = z at hz h6
    have hz1 : ¬ (z : Int) = 0 := by omega
    have hz2 : ((z : Int) == 0) = false := by simpa using hz1
    have hw1 : ∀ x : Int, x = (m : Int) - 1 → IntKind.i64.wrap x = ((m - 1 : Nat) : Int) := fun x hx => by rw [hx, IntWalk.i64_in _ (by omega)]; omega
    have hi : ∀ x : Nat, x = v → IntKind.i64.wrap (x : Int) = iv := fun x h => by rw [h]; exact HI.out
    have hwm : ∀ x : Nat, x < 256 → wrap64 (x : Int) = x := fun x h => wrapM h
    go_enter Tryz.func48, Tryz.ntmps48
    go_wp2_with fail
    refine (UL.out _).mono ?_
    rintro e w1 ⟨rfl, hw⟩
    rw [hw]
    clear hw
    go_upto_region 22 with fail
    go_region
    all_goals
      have hal2 : Below w.heap.size w (w.alloc (.cells #[.bool true, .int .i64 0, .string (r.extract 0 iv.toNat)] 94)).drew := ((Below.refl _ _).alloc (Nat.le_refl _) _).drew
      go_wp2_with fail
      refine bodyPost_ret (v := .tuple #[.agg #[.bool true, .int .i64 0, .string (r.extract 0 iv.toNat)], .string (r.extract iv.toNat r.size), .int .i64 0]) (by simp [results, Tryz.results48, go_sem]) rfl ?_
      exact ⟨rfl, hal2⟩

theorem field_calls (s : ByteArray) (hs : 0 < s.size) (w : World) :
    Calls Tryz.prog 48 #[.string s] w (FieldPost w (fieldP s)) := by
  unfold fieldP
  by_cases h1 : byAt s 0 ≠ 78 ∧ byAt s 0 ≠ 84
  · rw [if_pos h1]
    exact field_else s hs h1.1 h1.2 w
  · rw [if_neg h1]
    have h2 : byAt s 0 = 78 ∨ byAt s 0 = 84 := by omega
    by_cases h3 : s.size < 2
    · rw [if_pos h3]
      exact field_short s hs h2 h3 w
    · rw [if_neg h3]
      unfold fieldP2
      have h20 : 2 ≤ s.size := by omega
      by_cases h4 : 8 < byAt s 1
      · rw [if_pos h4]
        exact field_num s h20 h2 rfl rfl h4 w
      · rw [if_neg h4]
        by_cases h5 : (s.extract 2 s.size).size < byAt s 1
        · rw [if_pos h5]
          exact field_few s h20 h2 rfl rfl h4 h5 w
        · rw [if_neg h5]
          by_cases h6 : 0 < byAt s 1 ∧ byAt (s.extract 2 s.size) (byAt s 1 - 1) = 0
          · rw [if_pos h6]
            exact field_zero s h20 h2 rfl rfl h4 h5 h6.1 h6.2 w
          · rw [if_neg h6]
            have h7 : byAt s 1 = 0 ∨ (0 < byAt s 1 ∧ byAt (s.extract 2 s.size) (byAt s 1 - 1) ≠ 0) := by omega
            by_cases h8 : byAt s 0 = 78
            · rw [if_pos h8]
              exact field_number s h20 h8 rfl rfl h4 h5 h7 rfl rfl rfl w
            · rw [if_neg h8]
              have h9 : byAt s 0 = 84 := by omega
              generalize hv : valB (byL ((s.extract 2 s.size).extract 0 (byAt s 1))) = v
              generalize hi : IntKind.i64.wrap (v : Int) = iv
              by_cases ha : iv < 0 ∨ 262144 < iv
              · rw [if_pos ha]
                exact field_badlen s h20 h9 rfl rfl h4 h5 h7 hv hi rfl ha w
              · rw [if_neg ha]
                have hc : 0 ≤ iv ∧ iv ≤ 262144 := by
                  clear hi
                  omega
                by_cases hb : ((((s.extract 2 s.size).extract (byAt s 1) (s.extract 2 s.size).size).size : Nat) : Int) < iv
                · rw [if_pos hb]
                  exact field_end s h20 h9 rfl rfl h4 h5 h7 hv hi rfl hc hb w
                · rw [if_neg hb]
                  exact field_text s h20 h9 rfl rfl h4 h5 h7 hv hi rfl hc (Int.not_lt.1 hb) w
end Go.Proofs.YtallnibjmffahaaGreatDoor

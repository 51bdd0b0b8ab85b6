/- A full table, in plain Lean. -/
import Derived.Test.YtehfaeafefkngaaTt4
import Derived.Laws.BytesArg
set_option linter.unusedVariables false
set_option linter.unusedSimpArgs false
namespace Go.Proofs.Ytehfaeafefkngaa

def fullKey (k : Nat) : ByteArray := ⟨#[UInt8.ofNat (97 + k / 256), UInt8.ofNat (k % 256)]⟩
def fullRow (v : ByteArray) (k : Nat) : Rw := ⟨fullKey k, 1 + k, v⟩
def fullRows (v : ByteArray) (n : Nat) : List Rw := (List.range n).map (fullRow v)
theorem fullRows_len (v : ByteArray) (n : Nat) : (fullRows v n).length = n := by simp [fullRows]
theorem fullRows_snoc (v : ByteArray) (n : Nat) : fullRows v (n + 1) = fullRows v n ++ [fullRow v n] := by simp [fullRows, List.range_succ]
theorem u8_lt {a b : Nat} (ha : a < 256) (hb : b < 256) : UInt8.ofNat a < UInt8.ofNat b ↔ a < b := by
  have h1 : (UInt8.ofNat a).toNat = a := by rw [UInt8.toNat_ofNat']; omega
  have h2 : (UInt8.ofNat b).toNat = b := by rw [UInt8.toNat_ofNat']; omega
  rw [UInt8.lt_iff_toNat_lt, h1, h2]
theorem fullKey_lt {i j : Nat} (hj : j < 4096) (h : i < j) : klt (fullKey i) (fullKey j) := by
  unfold klt fullKey
  show [UInt8.ofNat (97 + i / 256), UInt8.ofNat (i % 256)] < [UInt8.ofNat (97 + j / 256), UInt8.ofNat (j % 256)]
  rw [List.cons_lt_cons_iff, u8_lt (by omega) (by omega)]
  by_cases hq : i / 256 < j / 256
  · exact .inl (by omega)
  · right
    have he : i / 256 = j / 256 := by omega
    refine ⟨by rw [he], ?_⟩
    rw [List.cons_lt_cons_iff, u8_lt (by omega) (by omega)]
    exact .inl (by omega)
theorem fullKey_zz {i : Nat} (hi : i < 4096) : klt (fullKey i) ⟨#[122, 122]⟩ := by
  unfold klt fullKey
  show [UInt8.ofNat (97 + i / 256), UInt8.ofNat (i % 256)] < [UInt8.ofNat 122, UInt8.ofNat 122]
  rw [List.cons_lt_cons_iff, u8_lt (by omega) (by omega)]
  exact .inl (by omega)
theorem fullRows_sorted (v : ByteArray) : Sorted (fullRows v 4096) := by
  refine List.pairwise_iff_getElem.2 fun i j hi hj hij => ?_
  simp only [fullRows, List.getElem_map, List.getElem_range]
  rw [fullRows_len] at hj
  exact fullKey_lt hj hij
theorem fullRows_ok {v : ByteArray} (hv : v.size ≤ 20) : RowsOk (fullRows v 4096) := by
  intro r hr
  unfold fullRows at hr
  obtain ⟨i, hi, rfl⟩ := List.mem_map.1 hr
  have hi := List.mem_range.1 hi
  have h2 : (fullKey i).size = 2 := rfl
  unfold rowOk fullRow
  simp only [h2, Bool.and_eq_true, decide_eq_true_eq]
  omega
theorem zz_mem {v : ByteArray} {r : Rw} (hr : r ∈ fullRows v 4096) : r.key ≠ ⟨#[122, 122]⟩ := by
  unfold fullRows at hr
  obtain ⟨i, hi, rfl⟩ := List.mem_map.1 hr
  exact klt_ne (fullKey_zz (List.mem_range.1 hi))
theorem zz_none {l : List Rw} (h : ∀ r ∈ l, r.key ≠ ⟨#[122, 122]⟩) : there ⟨#[122, 122]⟩ l = false := by
  unfold there
  rw [List.any_eq_false]
  intro r hr
  rw [decide_eq_true_eq]
  exact h r hr
theorem zz_not (v : ByteArray) : there ⟨#[122, 122]⟩ (fullRows v 4096) = false := zz_none fun r hr => zz_mem hr
theorem full_take {v : ByteArray} (hv : v.size ≤ 20) : takeP [] (fullRows v 4096) = (0, fullRows v 4096) := take_nil (fullRows_ok hv) (fullRows_sorted v) (by rw [fullRows_len]; omega)
theorem full_more {v : ByteArray} (hv : v.size ≤ 20) : takeP (fullRows v 4096) [⟨⟨#[122, 122]⟩, 1, ⟨#[]⟩⟩] = (22, fullRows v 4096) := by
  have hs : Sorted [(⟨⟨#[122, 122]⟩, 1, ⟨#[]⟩⟩ : Rw)] := List.pairwise_singleton _ _
  have hl : (mergeP (fullRows v 4096) [⟨⟨#[122, 122]⟩, 1, ⟨#[]⟩⟩]).length = 4097 := by
    have hp := pos_le ⟨#[122, 122]⟩ (fullRows v 4096)
    rw [fullRows_len] at hp
    simp only [mergeP, mState, List.foldl_cons, List.foldl_nil, mStep, List.length_append, List.length_take, List.length_drop, List.length_singleton, List.length_nil, fullRows_len, zz_not]
    simp
    omega
  unfold takeP
  rw [if_neg (by decide +kernel), if_neg (fun h => h hs), hl, if_pos (by omega)]
def zzOp : OpR := ⟨1, ⟨#[122, 122]⟩, ⟨#[]⟩, 1, 0, 0⟩
theorem zz_ok : opOk zzOp = true := by decide +kernel
theorem zz_full {l : List Rw} (h : there ⟨#[122, 122]⟩ l = false) (hl : 4096 ≤ l.length) : oneP l zzOp = (l, ⟨22, 0, ⟨#[]⟩, []⟩) := by
  have h1 : oneP l zzOp = writeP l zzOp := rfl
  rw [h1]
  unfold writeP
  dsimp only
  have h2 : there zzOp.key l = false := h
  rw [h2]
  rw [if_neg (by simp), if_neg (by simp), if_neg (by simp [zzOp]), if_neg (by decide), if_pos ⟨rfl, hl⟩]
  rfl
theorem zz_room {l : List Rw} (h : there ⟨#[122, 122]⟩ l = false) (hl : l.length < 4096) : (oneP l zzOp).2.code = 0 ∧ (oneP l zzOp).1.length = l.length + 1 := by
  have h1 : oneP l zzOp = writeP l zzOp := rfl
  have hp := pos_le zzOp.key l
  rw [h1]
  unfold writeP
  dsimp only
  have h2 : there zzOp.key l = false := h
  rw [h2]
  rw [if_neg (by simp), if_neg (by simp), if_neg (by simp [zzOp]), if_neg (by decide), if_neg (by omega)]
  refine ⟨rfl, ?_⟩
  simp
  omega
theorem full_add {v : ByteArray} : doP (fullRows v 4096) [zzOp] = ⟨fullRows v 4096, [⟨22, 0, ⟨#[]⟩, []⟩], 0, 0⟩ := by
  rw [doP_one, if_pos zz_ok, zz_full (zz_not v) (by rw [fullRows_len]; omega)]
def delOp (k : ByteArray) : OpR := ⟨4, k, ⟨#[]⟩, 0, 0, 0⟩
theorem full_two (v : ByteArray) : ∃ l' r1 r2, doP (fullRows v 4096) [delOp (fullKey 7), zzOp] = ⟨l', [r1, r2], 0, 0⟩ ∧ l'.length = 4096 := by
  have hl := fullRows_len v 4096
  have hs := fullRows_sorted v
  have ht : there (fullKey 7) (fullRows v 4096) = true := (there_iff _ _).2 ⟨fullRow v 7, List.mem_map.2 ⟨7, List.mem_range.2 (by omega), rfl⟩, rfl⟩
  have hp := (pos_lt hs ht).1
  have h1 : oneP (fullRows v 4096) (delOp (fullKey 7)) = ((fullRows v 4096).take (pos (fullKey 7) (fullRows v 4096)) ++ (fullRows v 4096).drop (pos (fullKey 7) (fullRows v 4096) + 1), .fail 0 (rowAt (fullRows v 4096) (pos (fullKey 7) (fullRows v 4096))).stamp) := by
    unfold oneP delOp
    dsimp only
    rw [ht]
    rw [if_neg (by decide), if_pos (by decide), if_neg (by simp), if_neg (by simp), if_neg (by decide)]
  generalize hF : fullRows v 4096 = F at *
  have hl1 : (oneP F (delOp (fullKey 7))).1.length = 4095 := by
    rw [h1, List.length_append, List.length_take, List.length_drop]
    omega
  have hz : there ⟨#[122, 122]⟩ (oneP F (delOp (fullKey 7))).1 = false := zz_none fun r hr => by
    rw [h1] at hr
    refine zz_mem (v := v) ?_
    rw [hF]
    rcases List.mem_append.1 hr with hr | hr
    · exact List.mem_of_mem_take hr
    · exact List.mem_of_mem_drop hr
  obtain ⟨hc, hl2⟩ := zz_room hz (by omega)
  refine ⟨(oneP (oneP F (delOp (fullKey 7))).1 zzOp).1, (oneP F (delOp (fullKey 7))).2, (oneP (oneP F (delOp (fullKey 7))).1 zzOp).2, ?_, by omega⟩
  refine doP_ok (by simp) (by decide +kernel) (fun _ r hr => ?_)
  simp only [reP, List.mem_cons, List.not_mem_nil, or_false] at hr
  rcases hr with rfl | rfl
  · rw [h1]; rfl
  · exact hc
end Go.Proofs.Ytehfaeafefkngaa

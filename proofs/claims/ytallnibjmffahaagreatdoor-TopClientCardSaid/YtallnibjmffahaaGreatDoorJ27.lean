/- Plain: what a table answers without OMany may be written as a reply. -/
import Derived.Test.YtallnibjmffahaaGreatDoorJ08
import Derived.Test.YtallnibjmffahaaGreatDoorJ24
import Derived.Test.YtallnibjmffahaaGreatDoorJ26
set_option linter.unusedVariables false
set_option linter.unusedSimpArgs false
namespace Go.Proofs.YtallnibjmffahaaGreatDoor
open Go.RowKit

def toS (r : Res) : ResS := ⟨r.code, r.stamp, r.val⟩
theorem writeP_norows (l : List Rw) (x : OpR) : (writeP l x).2.rows = [] := by
  unfold writeP
  simp only
  repeat' split
  all_goals rfl
theorem oneP_norows {l : List Rw} {x : OpR} (h : x.kind ≠ 6) : (oneP l x).2.rows = [] := by
  unfold oneP
  simp only
  rw [if_neg h]
  repeat' split
  all_goals first | rfl | exact writeP_norows l x
theorem reP_norows : ∀ (ops : List OpR) (l : List Rw), (∀ x ∈ ops, x.kind ≠ 6) → ∀ r ∈ reP l ops, r.rows = []
  | [], l, _, r, hr => by simp [reP] at hr
  | x :: xs, l, h, r, hr => by
    rw [reP] at hr
    rcases List.mem_cons.1 hr with rfl | hr
    · exact oneP_norows (h x (by simp))
    · exact reP_norows xs _ (fun y hy => h y (by simp [hy])) r hr
theorem doP_norows {l : List Rw} {ops : List OpR} (h : ops.any isMany = false) : ∀ r ∈ (doP l ops).res, r.rows = [] := by
  intro r hr
  unfold doP at hr
  split at hr
  · simp at hr
  · split at hr
    · simp at hr
    · split at hr
      · simp at hr
      · refine reP_norows ops l (fun x hx hk => ?_) r hr
        have := List.any_eq_false.1 h x hx
        simp [isMany, hk] at this
theorem rowAt_ok {l : List Rw} (hs : Sorted l) (hl : RowsOk l) {x : ByteArray} (ht : there x l = true) : rowOk (rowAt l (pos x l)) = true := by
  have h1 := (pos_lt hs ht).1
  rw [rowAt_eq h1]
  exact hl _ (List.getElem_mem h1)
theorem rowOk_all {r : Rw} (h : rowOk r = true) : 1 ≤ r.stamp ∧ r.stamp ≤ 1099511627776 ∧ r.val.size ≤ 4096 := by
  unfold rowOk at h
  simp only [Bool.and_eq_true, decide_eq_true_eq] at h
  omega
theorem resOk_of {c s : Int} {v : ByteArray} (h1 : 0 ≤ c) (h2 : c ≤ 300) (h3 : 0 ≤ s) (h4 : s ≤ 1099511627776) (h5 : v.size ≤ 8192) : resOk ⟨c, s, v⟩ = true := by
  unfold resOk numOk
  simp only [Bool.and_eq_true, decide_eq_true_eq]
  omega
theorem resOk_fail {c s : Int} (h1 : 0 ≤ c ∧ c ≤ 300) (h3 : 0 ≤ s ∧ s ≤ 1099511627776) : resOk (toS (Res.fail c s)) = true := resOk_of h1.1 h1.2 h3.1 h3.2 (by show (⟨#[]⟩ : ByteArray).size ≤ 8192; decide)
theorem writeP_resOk {l : List Rw} (hs : Sorted l) (hl : RowsOk l) {x : OpR} (hx : opOk x = true) (hk : x.kind ≠ 4 ∧ x.kind ≠ 5 ∧ x.kind ≠ 6) : resOk (toS (writeP l x).2) = true := by
  have hg := opOk_good hx
  unfold writeP
  simp only
  split
  · rename_i h
    have := rowOk_all (rowAt_ok hs hl h.1)
    exact resOk_fail (by omega) (by omega)
  · split
    · rename_i h
      have := rowOk_all (rowAt_ok hs hl h.1)
      exact resOk_fail (by omega) (by omega)
    · split
      · exact resOk_fail (by omega) (by omega)
      · split
        · exact resOk_fail (by omega) (by omega)
        · split
          · exact resOk_fail (by omega) (by omega)
          · exact resOk_fail (by omega) (by omega)
theorem oneP_resOk {l : List Rw} (hs : Sorted l) (hl : RowsOk l) {x : OpR} (hx : opOk x = true) : resOk (toS (oneP l x).2) = true := by
  unfold oneP
  simp only
  split
  · exact resOk_fail (by omega) (by omega)
  · rename_i h6
    split
    · split
      · exact resOk_fail (by omega) (by omega)
      · rename_i ht
        have ht : there x.key l = true := by simpa using ht
        have := rowOk_all (rowAt_ok hs hl ht)
        split
        · exact resOk_fail (by omega) (by omega)
        · split
          · exact resOk_of (c := 0) (s := (rowAt l (pos x.key l)).stamp) (v := (rowAt l (pos x.key l)).val) (by omega) (by omega) (by omega) (by omega) (by omega)
          · exact resOk_fail (by omega) (by omega)
    · rename_i h45
      exact writeP_resOk hs hl hx ⟨fun e => h45 (.inl e), fun e => h45 (.inr e), h6⟩
theorem reP_resOk : ∀ (ops : List OpR) (l : List Rw), Sorted l → RowsOk l → (∀ x ∈ ops, opOk x = true) → ∀ r ∈ reP l ops, resOk (toS r) = true
  | [], l, _, _, _, r, hr => by simp [reP] at hr
  | x :: xs, l, hs, hl, h, r, hr => by
    rw [reP] at hr
    rcases List.mem_cons.1 hr with rfl | hr
    · exact oneP_resOk hs hl (h x (by simp))
    · exact reP_resOk xs _ (oneP_sorted hs x) (oneP_ok hl (h x (by simp))) (fun y hy => h y (by simp [hy])) r hr
theorem doP_reply {l : List Rw} {ops : List OpR} {sq : Int} (hs : Sorted l) (hl : RowsOk l) (hq : reqOk 7 sq ops = true) : replyOk 7 sq (doP l ops).at_ (doP l ops).code ((doP l ops).res.map toS) = true := by
  obtain ⟨h1, h2, h3, h4⟩ := reqOk_parts hq
  have hres := reP_resOk ops l hs hl h4
  have hlen := reP_len l ops
  unfold doP
  rw [if_neg (by omega), if_neg (by
    rw [Bool.not_eq_true]
    refine List.any_eq_false.2 fun x hx => ?_
    simp [h4 x hx])]
  split
  · rename_i h
    have hi : (reP l ops).findIdx failed < (reP l ops).length := List.findIdx_lt_length.2 (by
      obtain ⟨r, hr, hf⟩ := List.any_eq_true.1 h.2
      exact ⟨r, hr, hf⟩)
    have hf : failed (reP l ops)[(reP l ops).findIdx failed] = true := List.findIdx_getElem (w := hi)
    have hr := hres _ (List.getElem_mem hi)
    have hg : (reP l ops).getD ((reP l ops).findIdx failed) ⟨0, 0, ⟨#[]⟩, []⟩ = (reP l ops)[(reP l ops).findIdx failed] := by
      rw [List.getD_eq_getElem?_getD, List.getElem?_eq_getElem hi]
      rfl
    unfold replyOk
    simp only [List.map_nil, List.length_nil, if_true]
    rw [hg]
    unfold fidx
    rw [if_pos h.2]
    generalize (reP l ops).findIdx failed = I at hi hf hr hg ⊢
    obtain ⟨⟨p1, p2⟩, _⟩ := resOk_parts hr
    unfold failed at hf
    simp only [decide_eq_true_eq] at hf
    unfold toS at p1 p2
    simp only at p1 p2
    simp only [Bool.and_eq_true, decide_eq_true_eq]
    omega
  · show replyOk 7 sq 0 0 ((reP l ops).map toS) = true
    unfold replyOk
    rw [if_neg (by rw [List.length_map]; omega)]
    have ha : ((reP l ops).map toS).any (fun r => !resOk r) = false := by
      refine List.any_eq_false.2 fun r hr => ?_
      obtain ⟨q, hq, rfl⟩ := List.mem_map.1 hr
      simp [hres q hq]
    rw [ha]
    simp only [Bool.and_eq_true, decide_eq_true_eq, List.length_map, Bool.not_false]
    refine ⟨⟨⟨by omega, by omega⟩, by omega, by omega⟩, ⟨by omega, by simp⟩, by trivial⟩
end Go.Proofs.YtallnibjmffahaaGreatDoor

/- What is false is seen; what is found is right, with times loosened too: plain. -/
import Derived.Test.YtlhjfblpinpjiaaG4
set_option linter.unusedVariables false
set_option linter.unusedSimpArgs false
namespace Go.Proofs.Ytlhjfblpinpjiaa
open Go.RowKit

theorem timed_ag {cs : List CallR} (h : ∀ (i : Nat) (hi : i < cs.length), cs[i].asked ≤ 10 * (i : Int) + 100 ∧ (cs[i].told = 0 ∨ 10 * (i : Int) + 100 ≤ cs[i].told)) (i : Nat) (hi : i < cs.length) : agBad cs i = false := by
  rw [agBad_at hi, Bool.and_eq_false_iff]
  rcases (h i hi).2 with h0 | h0
  · left; simp [h0]
  · right
    rw [List.any_eq_false]
    intro z hz
    obtain ⟨j, hj, rfl⟩ := List.getElem_of_mem hz
    rw [List.getElem_take]
    have hj2 : j < i := by simp at hj; omega
    have := (h j (by omega)).1
    simp
    omega
theorem ord_inj {n : Nat} {os : List Int} (h1 : ∀ v ∈ os, 0 ≤ v ∧ v < (n : Int)) (h2 : os.Pairwise (· ≠ ·)) : firstI (ordBad n os) os.length = none := by
  rw [firstI_none]
  intro i hi
  rw [ordBad_at hi]
  have hr := h1 _ (List.getElem_mem hi)
  have hm : ¬ os[i] ∈ os.take i := by
    intro hm
    obtain ⟨j, hj, e⟩ := List.mem_iff_getElem.1 hm
    rw [List.getElem_take] at e
    have hj2 : j < i := by simp at hj; omega
    exact (List.pairwise_iff_getElem.1 h2 j i (by omega) hi hj2) e
  simp [hm]
  omega
theorem rangeI_pw (n : Nat) : (rangeI n).Pairwise (· ≠ ·) := by
  unfold rangeI
  refine List.Pairwise.map _ (fun a b h e => h (by omega)) (List.nodup_range (n := n))
theorem formP_seen {hs : List CallR} {os : List Int} {i : Nat} (h : formP hs os = ((i : Int), 4)) : judgeP hs os = ((i : Int), 4) := by
  rw [judgeP_form (by rw [h]; intro e; injection e with _ e; cases e), h]
/-- One stands there twice. -/
theorem sees_dup {hs : List CallR} (h : Fair hs) {k : Nat} (hk : k < hs.length) : judgeP hs (rangeI hs.length ++ [(k : Int)]) = ((hs.length : Int), 4) := by
  have hl := h.len
  have hlen : (rangeI hs.length ++ [(k : Int)]).length = hs.length + 1 := by simp [rangeI_len]
  refine formP_seen (formP_ord (by omega) h.oks (firstI_hit (by omega) ?_ fun j hj => ?_))
  · rw [ordBad_at (by omega)]
    have h1 : (rangeI hs.length ++ [(k : Int)])[hs.length]'(by omega) = (k : Int) := by
      rw [List.getElem_append_right (by rw [rangeI_len]; omega)]
      simp
    have h2 : (rangeI hs.length ++ [(k : Int)]).take hs.length = rangeI hs.length := by
      rw [List.take_append_of_le_length (by rw [rangeI_len]; omega), List.take_of_length_le (by rw [rangeI_len]; omega)]
    rw [h1, h2]
    have : (k : Int) ∈ rangeI hs.length := mem_rangeI.2 ⟨k, hk, rfl⟩
    simp [this]
  · rw [ordBad_at (by omega), List.getElem_append_left (by rw [rangeI_len]; omega), List.take_append_of_le_length (by rw [rangeI_len]; omega), rangeI_get, rangeI_take _ _ (Nat.le_of_lt hj)]
    have h1 : ¬ (j : Int) ∈ rangeI j := by
      rw [mem_rangeI]
      rintro ⟨i, hi, e⟩
      omega
    simp [h1]
    omega
/-- One is left out. -/
def cutO (n k : Nat) : List Int := (rangeI n).take k ++ (rangeI n).drop (k + 1)
theorem mem_cutO {n k : Nat} (hk : k < n) {v : Int} : v ∈ cutO n k ↔ ∃ j : Nat, j < n ∧ j ≠ k ∧ v = (j : Int) := by
  unfold cutO
  rw [List.mem_append, rangeI_take n k (Nat.le_of_lt hk), mem_rangeI]
  constructor
  · rintro (⟨j, hj, e⟩ | hm)
    · exact ⟨j, by omega, by omega, e⟩
    · obtain ⟨i, hi, e⟩ := List.mem_iff_getElem.1 hm
      rw [List.getElem_drop, rangeI_get] at e
      simp [rangeI_len] at hi
      exact ⟨k + 1 + i, by omega, by omega, e.symm⟩
  · rintro ⟨j, hj, hne, e⟩
    rcases Nat.lt_or_ge j k with h1 | h1
    · exact .inl ⟨j, h1, e⟩
    · refine .inr (List.mem_iff_getElem.2 ⟨j - (k + 1), by simp [rangeI_len]; omega, ?_⟩)
      rw [List.getElem_drop, rangeI_get, e]
      omega
theorem cutO_pw (n k : Nat) : (cutO n k).Pairwise (· ≠ ·) := by
  unfold cutO
  rw [← List.eraseIdx_eq_take_drop_succ]
  exact List.Pairwise.sublist (List.eraseIdx_sublist _ _) (rangeI_pw n)
theorem cutO_len {n k : Nat} (hk : k < n) : (cutO n k).length = n - 1 := by
  unfold cutO
  simp [rangeI_len]
  omega
theorem sees_out {hs : List CallR} (h : Fair hs) {k : Nat} (hk : k < hs.length) (ht : hs[k].told ≠ 0) : judgeP hs (cutO hs.length k) = ((k : Int), 4) := by
  have hl := h.len
  have hb := (h.at_ k hk).t
  refine formP_seen (formP_out (by omega) h.oks (ord_inj (fun v hv => ?_) (cutO_pw _ _)) (firstI_hit hk ?_ fun j hj => ?_))
  · obtain ⟨j, hj, _, rfl⟩ := (mem_cutO hk).1 hv
    omega
  · rw [leftOut_at hk]
    have h1 : ¬ (k : Int) ∈ cutO hs.length k := by
      rw [mem_cutO hk]
      rintro ⟨j, _, hne, e⟩
      omega
    simp [h1]
    omega
  · rw [leftOut_at (by omega)]
    have h1 : (j : Int) ∈ cutO hs.length k := (mem_cutO hk).2 ⟨j, by omega, by omega, rfl⟩
    simp [h1]
/-- A reply with one result more. -/
theorem sees_reply {hs : List CallR} (h : Fair hs) {k : Nat} (hk : k < hs.length) (ht : hs[k].told ≠ 0) {y : CallR} (ha : y.asked = hs[k].asked) (htd : y.told = hs[k].told) (hcl : y.cl = hs[k].cl) (hsq : y.sq = hs[k].sq) (hops : y.ops = hs[k].ops)
    {r : Res} (hres : y.res = r :: hs[k].res) : judgeP (hs.set k y) (rangeI hs.length) = ((k : Int), 251) := by
  have hl := h.len
  have hb := (h.at_ k hk).t
  have hlen : (hs.set k y).length = hs.length := List.length_set
  have hall : callsOf (hs.set k y) (rangeI hs.length) = hs.set k y := by
    have := callsOf_all (hs.set k y)
    rwa [hlen] at this
  have hget : ∀ (i : Nat) (hi : i < (hs.set k y).length), (hs.set k y)[i] = if k = i then y else hs[i]'(by omega) := fun i hi => List.getElem_set _
  have hok : (hs.set k y).any (fun x => !x.ok) = false := by
    rw [List.any_eq_false]
    intro x hx
    obtain ⟨i, hi, rfl⟩ := List.getElem_of_mem hx
    rw [hget i hi]
    by_cases e : k = i
    · subst e
      have := h.ok hk
      unfold CallR.ok at this ⊢
      rw [if_pos rfl, ha, htd, hcl, hsq, hops, this]
      simp
    · rw [if_neg e, h.ok]
      simp
  have hform : formP (hs.set k y) (rangeI hs.length) = (0, 0) := by
    refine formP_ok (by omega) hok (by rw [hlen]; exact ord_range (Nat.le_refl _)) ?_
    rw [firstI_none]
    intro i hi
    rw [leftOut_at hi]
    have : (i : Int) ∈ rangeI hs.length := mem_rangeI.2 ⟨i, by omega, rfl⟩
    simp [this]
  refine judgeP_bad hform ?_ ?_
  · rw [hall, firstI_none]
    refine timed_ag fun i hi => ?_
    rw [hget i hi]
    by_cases e : k = i
    · subst e
      rw [if_pos rfl, ha, htd]
      exact ⟨(h.at_ k hk).a1, (h.at_ k hk).t.imp id And.left⟩
    · rw [if_neg e]
      exact ⟨(h.at_ i (by omega)).a1, (h.at_ i (by omega)).t.imp id And.left⟩
  · rw [hall]
    refine firstI_hit (by omega) ?_ fun j hj => ?_
    · have hs1 := (h.at_ k hk).said (by omega)
      unfold CallR.told_ CallR.said at hs1
      simp only [Bool.and_eq_true, decide_eq_true_eq] at hs1
      rw [badAt_at (by omega), hget k (by omega), if_pos rfl, List.take_set_of_le (Nat.le_refl k), htd]
      unfold CallR.told_ CallR.said
      rw [hops, hs1.2, hres]
      have : ¬ hs[k].res = r :: hs[k].res := fun e => by
        have := congrArg List.length e
        simp at this
      simp [this]
      omega
    · rw [badAt_at (by omega), hget j (by omega), if_neg (by omega), List.take_set_of_le (Nat.le_of_lt hj)]
      by_cases ht0 : 0 < hs[j].told
      · rw [(h.at_ j (by omega)).said ht0]; simp
      · simp [ht0]
/-- Two that stand against time. -/
def turnO (n k j : Nat) : List Int := ((rangeI n).set k (j : Int)).set j (k : Int)
theorem turnO_len (n k j : Nat) : (turnO n k j).length = n := by simp [turnO, rangeI_len]
theorem turnO_get {n k j : Nat} {a : Nat} (ha : a < (turnO n k j).length) : (turnO n k j)[a] = if j = a then (k : Int) else if k = a then (j : Int) else (a : Int) := by
  have h : ∀ (h : a < (((rangeI n).set k (j : Int)).set j (k : Int)).length), (((rangeI n).set k (j : Int)).set j (k : Int))[a] = if j = a then (k : Int) else if k = a then (j : Int) else (a : Int) := fun h => by
    rw [List.getElem_set, List.getElem_set, rangeI_get]
  exact h ha
theorem sees_turn {hs : List CallR} (h : Fair hs) {k j : Nat} (hkj : k < j) (hj : j < hs.length) (ht : hs[k].told ≠ 0) (hlt : hs[k].told < hs[j].asked) : (judgeP hs (turnO hs.length k j)).2 = 250 := by
  have hl := h.len
  have hb := (h.at_ k (by omega)).t
  have hlen := turnO_len hs.length k j
  have hall : AllIn hs (turnO hs.length k j) := by
    intro v hv
    obtain ⟨a, ha, rfl⟩ := List.mem_iff_getElem.1 hv
    rw [turnO_get ha]
    split
    · omega
    · split <;> omega
  have hpw : (turnO hs.length k j).Pairwise (· ≠ ·) := by
    rw [List.pairwise_iff_getElem]
    intro a b ha hb2 hab
    rw [turnO_get ha, turnO_get hb2]
    repeat split
    all_goals omega
  have hform : formP hs (turnO hs.length k j) = (0, 0) := by
    refine formP_ok (by omega) h.oks (ord_inj (fun v hv => hall v hv) hpw) ?_
    rw [firstI_none]
    intro i hi
    rw [leftOut_at hi]
    have : (i : Int) ∈ turnO hs.length k j := by
      rw [List.mem_iff_getElem]
      by_cases e1 : i = k
      · exact ⟨j, by omega, by rw [turnO_get, if_pos rfl, e1]⟩
      · by_cases e2 : i = j
        · exact ⟨k, by omega, by rw [turnO_get, if_neg (by omega), if_pos rfl, e2]⟩
        · exact ⟨i, by omega, by rw [turnO_get, if_neg (by omega), if_neg (by omega)]⟩
    simp [this]
  have hcl : (callsOf hs (turnO hs.length k j)).length = hs.length := by rw [callsOf_len, hlen]
  have hgk : (callsOf hs (turnO hs.length k j))[k]'(by omega) = hs[j] := by
    obtain ⟨a, ha, hc, e1, e2⟩ := callsOf_at hall (i := k) (by omega)
    rw [turnO_get, if_neg (by omega), if_pos rfl] at e1
    obtain rfl : j = a := by omega
    exact e2
  have hgj : (callsOf hs (turnO hs.length k j))[j]'(by omega) = hs[k] := by
    obtain ⟨a, ha, hc, e1, e2⟩ := callsOf_at hall (i := j) (by omega)
    rw [turnO_get, if_pos rfl] at e1
    obtain rfl : k = a := by omega
    exact e2
  have hbad : agBad (callsOf hs (turnO hs.length k j)) j = true := by
    rw [agBad_at (by omega), hgj, Bool.and_eq_true]
    refine ⟨by simp; omega, List.any_eq_true.2 ⟨hs[j], ?_, by simpa using hlt⟩⟩
    rw [List.mem_iff_getElem]
    exact ⟨k, by rw [List.length_take]; omega, by rw [List.getElem_take, hgk]⟩
  have hsome : (firstI (agBad (callsOf hs (turnO hs.length k j))) (callsOf hs (turnO hs.length k j)).length).isSome = true := firstI_yes.2 ⟨j, by omega, hbad⟩
  obtain ⟨i, hi⟩ := Option.isSome_iff_exists.1 hsome
  rw [judgeP_ag hform hi]

theorem tryI_some {β : Type} {f : Nat → Option β} {r : β} : ∀ {n : Nat}, tryI f n = some r → ∃ k, k < n ∧ f k = some r := by
  intro n
  induction n with
  | zero => intro h; cases h
  | succ n ih =>
    intro h
    rw [tryI_succ] at h
    cases ht : tryI f n with
    | some x =>
      rw [ht] at h
      obtain ⟨k, hk, hf⟩ := ih (ht.trans h)
      exact ⟨k, by omega, hf⟩
    | none =>
      rw [ht] at h
      exact ⟨n, by omega, h⟩
theorem tryI_ne {β : Type} {f : Nat → Option β} {k : Nat} : ∀ {n : Nat}, k < n → f k ≠ none → tryI f n ≠ none := by
  intro n
  induction n with
  | zero => intro h; omega
  | succ n ih =>
    intro hk hf h
    rw [tryI_succ] at h
    cases ht : tryI f n with
    | some x => rw [ht] at h; cases h
    | none =>
      rw [ht] at h
      rcases Nat.lt_or_ge k n with h1 | h1
      · exact ih h1 hf ht
      · obtain rfl : k = n := by omega
        exact hf h
/-- What is found is right. -/
theorem findR_right {hs : List CallR} : ∀ (d : Nat) (os : List Int) {r : List Int}, findR hs d os = some r → judgeP hs r = (0, 0) := by
  intro d
  induction d with
  | zero =>
    intro os r h
    unfold findR at h
    split at h
    · injection h with h; subst h; assumption
    · cases h
  | succ d ih =>
    intro os r h
    by_cases hz : judgeP hs os = (0, 0)
    · rw [findR_yes _ hz] at h
      injection h with h; subst h; exact hz
    · rw [findR_no _ hz] at h
      obtain ⟨k, hk, hf⟩ := tryI_some h
      by_cases hm : (k : Int) ∈ os
      · rw [stepR_in hm] at hf; cases hf
      · rw [stepR_go hm] at hf
        exact ih _ hf
/-- Where there is an order, one is found. -/
theorem findR_finds {hs : List CallR} : ∀ (l : List Int) (d : Nat) (os : List Int), judgeP hs (os ++ l) = (0, 0) → l.length ≤ d → findR hs d os ≠ none := by
  intro l
  induction l with
  | nil =>
    intro d os h _
    rw [List.append_nil] at h
    rw [findR_yes _ h]
    simp
  | cons v l ih =>
    intro d os h hd
    by_cases hz : judgeP hs os = (0, 0)
    · rw [findR_yes _ hz]; simp
    · obtain ⟨d', rfl⟩ : ∃ d', d = d' + 1 := ⟨d - 1, by simp at hd; omega⟩
      rw [findR_no _ hz]
      obtain ⟨_, _, h3, _⟩ := formP_zero (judgeP_zero h).1
      have hi : os.length < (os ++ v :: l).length := by simp
      have hb := firstI_none.1 h3 os.length hi
      have hv : (os ++ v :: l)[os.length] = v := by simp
      rw [ordBad_at hi, hv, List.take_left] at hb
      simp at hb
      obtain ⟨⟨hb1, hb2⟩, hb3⟩ := hb
      obtain ⟨i, rfl⟩ : ∃ i : Nat, v = (i : Int) := ⟨v.toNat, by omega⟩
      refine tryI_ne (k := i) (by omega) ?_
      rw [stepR_go hb3]
      exact ih d' _ (by rw [List.append_assoc]; exact h) (by simp at hd; omega)
theorem fair_search {hs : List CallR} (h : Fair hs) (h7 : hs.length ≤ 7) : ∃ r, searchP hs = (r, true, 0) ∧ judgeP hs r = (0, 0) := by
  have hf := findR_finds (hs := hs) (rangeI hs.length) hs.length [] (fair_all h) (by rw [rangeI_len]; omega)
  unfold searchP
  rw [if_neg (by omega), if_neg (by rw [h.oks]; simp), findC_eq]
  cases hr : findR hs hs.length [] with
  | none => exact absurd hr hf
  | some r => exact ⟨r, rfl, findR_right _ _ hr⟩
/-- Asked earlier, told later. -/
structure LooseAt (a b : CallR) : Prop where
  as1 : 1 ≤ b.asked
  as2 : b.asked ≤ a.asked
  td : (a.told = 0 ∧ b.told = 0) ∨ (0 < a.told ∧ a.told ≤ b.told ∧ b.told ≤ a.told + 49)
  cl : b.cl = a.cl
  sq : b.sq = a.sq
  ops : b.ops = a.ops
  res : b.res = a.res
  at_ : b.at_ = a.at_
  code : b.code = a.code
structure Loose (hs ls : List CallR) : Prop where
  len : ls.length = hs.length
  at_ : ∀ (i : Nat) (h1 : i < hs.length) (h2 : i < ls.length), LooseAt hs[i] ls[i]
theorem LooseAt.told_ {a b : CallR} (h : LooseAt a b) {cs ds : List CallR} (hc : ds.map CallR.ops = cs.map CallR.ops) : b.told_ ds = a.told_ cs := by
  unfold CallR.told_ CallR.said rowsP0
  rw [hc, h.ops, h.res, h.at_, h.code]
theorem Loose.mapOps {hs ls : List CallR} (h : Loose hs ls) (i : Nat) : (ls.take i).map CallR.ops = (hs.take i).map CallR.ops := by
  apply List.ext_getElem
  · simp [h.len]
  · intro j h1 h2
    simp only [List.getElem_map, List.getElem_take]
    exact (h.at_ j (by simp at h2; omega) (by simp at h1; omega)).ops
theorem Loose.fair {hs ls : List CallR} (h : Loose hs ls) (hb : Built hs) : Fair ls := by
  refine ⟨by rw [h.len]; exact hb.len, fun i hi => ?_⟩
  have hi2 : i < hs.length := by have := h.len; omega
  have l := h.at_ i hi2 hi
  have b := hb.at_ i hi2
  have := b.a1
  have := b.t
  have := l.as1
  have := l.as2
  have := l.td
  refine ⟨by rw [l.cl, l.sq, l.ops]; exact b.req, by omega, by omega, by omega, fun ht => ?_⟩
  rw [l.told_ (h.mapOps i)]
  exact b.said (by omega)
theorem Loose.calls {hs ls : List CallR} (h : Loose hs ls) {os : List Int} (ha : AllIn hs os) : Loose (callsOf hs os) (callsOf ls os) := by
  refine ⟨by rw [callsOf_len, callsOf_len], fun i h1 h2 => ?_⟩
  have hi : i < os.length := by rw [callsOf_len] at h1; exact h1
  have hal : AllIn ls os := fun o ho => by rw [h.len]; exact ha o ho
  obtain ⟨j, hj, _, e1, e2⟩ := callsOf_at ha hi
  obtain ⟨j', hj', _, e1', e2'⟩ := callsOf_at hal hi
  obtain rfl : j = j' := by omega
  rw [e2, e2']
  exact h.at_ j hj hj'
/-- An order that is judged right stays so. -/
theorem loose_judge {hs ls : List CallR} (h : Loose hs ls) (hf : Fair ls) {os : List Int} (hz : judgeP hs os = (0, 0)) : judgeP ls os = (0, 0) := by
  obtain ⟨h1, h2, h3⟩ := judgeP_zero hz
  obtain ⟨g1, g2, g3, g4⟩ := formP_zero h1
  have hc := h.calls (formP_allin h1)
  have hlen := h.len
  have hl := hf.len
  refine judgeP_ok (formP_ok (by omega) hf.oks (by rw [hlen]; exact g3) ?_) ?_ ?_
  · rw [firstI_none] at g4 ⊢
    intro i hi
    have hi2 : i < hs.length := by omega
    have := g4 i hi2
    have l := (h.at_ i hi2 hi).td
    rw [leftOut_at hi2] at this
    rw [leftOut_at hi]
    by_cases hm : (i : Int) ∈ os
    · simp [hm]
    · simp [hm] at this ⊢
      omega
  · rw [firstI_none] at h2 ⊢
    intro i hi
    have hi2 : i < (callsOf hs os).length := by have := hc.len; omega
    have h5 := h2 i hi2
    have l := hc.at_ i hi2 hi
    rw [agBad_at hi2] at h5
    rw [agBad_at hi, Bool.and_eq_false_iff]
    rw [Bool.and_eq_false_iff] at h5
    rcases h5 with h5 | h5
    · left
      have := l.td
      simp at h5 ⊢
      omega
    · by_cases ht : 0 < (callsOf ls os)[i].told
      · right
        rw [List.any_eq_false] at h5 ⊢
        intro z hz2
        obtain ⟨j, hj, rfl⟩ := List.getElem_of_mem hz2
        rw [List.getElem_take]
        have hj2 : j < i ∧ j < (callsOf ls os).length := by simp at hj; omega
        have hj3 : j < (callsOf hs os).length := by have := hc.len; omega
        have h6 := h5 (callsOf hs os)[j] (List.mem_iff_getElem.2 ⟨j, by rw [List.length_take]; omega, by rw [List.getElem_take]⟩)
        have lj := (hc.at_ j hj3 hj2.2).as2
        have := l.td
        simp at h6 ⊢
        omega
      · left
        simp
        omega
  · rw [firstI_none] at h3 ⊢
    intro i hi
    have hi2 : i < (callsOf hs os).length := by have := hc.len; omega
    have h5 := h3 i hi2
    have l := hc.at_ i hi2 hi
    rw [badAt_at hi2] at h5
    rw [badAt_at hi, l.told_ (hc.mapOps i)]
    by_cases ht : 0 < (callsOf hs os)[i].told
    · simp [ht] at h5
      simp [h5]
    · have := l.td
      have h6 : ¬ 0 < (callsOf ls os)[i].told := by omega
      simp [h6]
theorem Loose.refl {hs : List CallR} (hb : Built hs) : Loose hs hs :=
  ⟨rfl, fun i h1 h2 => by
    have b := hb.at_ i h1
    have := b.a0
    have := b.t
    exact ⟨by omega, by omega, by omega, rfl, rfl, rfl, rfl, rfl, rfl⟩⟩

end Go.Proofs.Ytlhjfblpinpjiaa

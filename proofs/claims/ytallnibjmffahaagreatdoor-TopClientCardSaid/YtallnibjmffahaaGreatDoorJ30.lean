/- The plain invariant of TopClient, and that what it holds of is judged right. The plain invariant: what was told; the letters are read; the history is judged right. -/
import Derived.Test.YtallnibjmffahaaGreatDoorJ29
set_option linter.unusedVariables false
set_option linter.unusedSimpArgs false
namespace Go.Proofs.YtallnibjmffahaaGreatDoor
open Go.RowKit

def fromS (r : ResS) : Res := ⟨r.code, r.stamp, r.val, []⟩
def rowsO (ol : List (List OpR)) (os : List Int) : List Rw := playP [] (os.map fun o => ol.getD o.toNat [])
theorem getD_map (hs : List CallR) (i : Nat) : (hs.map CallR.ops).getD i [] = (hs.getD i default).ops := by
  rw [List.getD_eq_getElem?_getD, List.getD_eq_getElem?_getD, List.getElem?_map]
  cases hs[i]? <;> rfl
theorem rows_of (hs : List CallR) (os : List Int) : rowsP0 (callsOf hs os) = rowsO (hs.map CallR.ops) os := by
  unfold rowsP0 rowsO callsOf
  rw [List.map_map]
  congr 1
  apply List.map_congr_left
  intro o _
  exact (getD_map hs o.toNat).symm
theorem rowsO_snoc (ol : List (List OpR)) (os : List Int) (v : Int) : rowsO ol (os ++ [v]) = (doP (rowsO ol os) (ol.getD v.toNat [])).rows := by
  unfold rowsO
  rw [List.map_append]
  exact playP_snoc _ _ _
theorem rowsO_sorted (ol : List (List OpR)) (os : List Int) : Sorted (rowsO ol os) := playP_sorted List.Pairwise.nil _
theorem rowsO_ok (ol : List (List OpR)) (os : List Int) : RowsOk (rowsO ol os) := playP_rowsOk (fun r hr => by simp at hr) _
def InR (m : Nat) (os : List Int) : Prop := ∀ v ∈ os, 0 ≤ v ∧ v < m
theorem getD_snoc {α : Type} (l : List α) (x d : α) {i : Nat} (h : i < l.length) : (l ++ [x]).getD i d = l.getD i d := by
  rw [List.getD_eq_getElem?_getD, List.getD_eq_getElem?_getD, List.getElem?_append_left h]
theorem rowsO_grow {ol : List (List OpR)} {os : List Int} (h : InR ol.length os) (x : List OpR) : rowsO (ol ++ [x]) os = rowsO ol os := by
  unfold rowsO
  congr 1
  apply List.map_congr_left
  intro o ho
  have := h o ho
  exact getD_snoc _ _ _ (by omega)
/-- What a request's reply must be. -/
def Right (ol : List (List OpR)) (os : List Int) (sq at_ code : Int) (rs : List ResS) : Prop :=
  ∃ (j : Nat) (hj : j < os.length), os[j] = sq - 1 ∧ at_ = (doP (rowsO ol (os.take j)) (ol.getD (sq - 1).toNat [])).at_ ∧ code = (doP (rowsO ol (os.take j)) (ol.getD (sq - 1).toNat [])).code ∧ rs = (doP (rowsO ol (os.take j)) (ol.getD (sq - 1).toNat [])).res.map toS
theorem Right.osnoc {ol : List (List OpR)} {os : List Int} {sq at_ code : Int} {rs : List ResS} (h : Right ol os sq at_ code rs) (v : Int) : Right ol (os ++ [v]) sq at_ code rs := by
  obtain ⟨j, hj, h1, h2⟩ := h
  refine ⟨j, by simp; omega, ?_, ?_⟩
  · rw [List.getElem_append_left hj]
    exact h1
  · rw [List.take_append_of_le_length (by omega)]
    exact h2
theorem Right.grow {ol : List (List OpR)} {os : List Int} {sq at_ code : Int} {rs : List ResS} (h : Right ol os sq at_ code rs) (hr : InR ol.length os) (x : List OpR) : Right (ol ++ [x]) os sq at_ code rs := by
  obtain ⟨j, hj, h1, h2⟩ := h
  have hv := hr _ (List.getElem_mem hj)
  rw [h1] at hv
  refine ⟨j, hj, h1, ?_⟩
  rw [rowsO_grow (fun v hv => hr v (List.mem_of_mem_take hv)), getD_snoc _ _ _ (by omega)]
  exact h2
theorem Right.last {ol : List (List OpR)} {os : List Int} (sq : Int) : Right ol (os ++ [sq - 1]) sq (doP (rowsO ol os) (ol.getD (sq - 1).toNat [])).at_ (doP (rowsO ol os) (ol.getD (sq - 1).toNat [])).code ((doP (rowsO ol os) (ol.getD (sq - 1).toNat [])).res.map toS) := by
  refine ⟨os.length, by simp, by simp, ?_⟩
  rw [List.take_left]
  exact ⟨rfl, rfl, rfl⟩
structure CallOk (i k : Nat) (y : CallR) : Prop where
  cl : y.cl = 7
  sq : y.sq = (k : Int) + 1
  req : reqOk 7 ((k : Int) + 1) y.ops = true
  many : y.ops.any isMany = false
  a0 : 1 ≤ y.asked
  a1 : y.asked ≤ i
  t : y.told = 0 ∨ (y.asked ≤ y.told ∧ y.told ≤ i)
def UpOk (ol : List (List OpR)) (s : ByteArray) : Prop := ∃ k b, k < ol.length ∧ oencP 7 ((k : Int) + 1) (ol.getD k []) = (b, 0) ∧ b.size ≤ 60000 ∧ s = sentB 1 b
def DnOk (ol : List (List OpR)) (os : List Int) (s : ByteArray) : Prop := ∃ sq at_ code rs, Right ol os sq at_ code rs ∧ s = ansB sq at_ code rs ∧ ¬ s = ⟨#[]⟩
def lastO (os : List Int) : Int := match os.getLast? with
  | some v => v + 1
  | none => 0
structure PI (i : Nat) (hs : List CallR) (os : List Int) (ups dns : List ByteArray) (reps : List RepR) (rows : List Rw) : Prop where
  len : hs.length ≤ i
  call : ∀ (k : Nat) (hk : k < hs.length), CallOk i k hs[k]
  mono : ∀ (j k : Nat) (hjk : j ≤ k) (hk : k < hs.length), (hs[j]'(Nat.lt_of_le_of_lt hjk hk)).asked ≤ hs[k].asked
  told : ∀ (k : Nat) (hk : k < hs.length), hs[k].told ≠ 0 → ∃ rs, Right (hs.map CallR.ops) os ((k : Int) + 1) hs[k].at_ hs[k].code rs ∧ hs[k].res = rs.map fromS
  inc : os.Pairwise (· < ·)
  rng : InR hs.length os
  rws : rows = rowsO (hs.map CallR.ops) os
  rep : ∀ r ∈ reps, Right (hs.map CallR.ops) os r.sq r.at_ r.code r.rs ∧ replyOk 7 r.sq r.at_ r.code r.rs = true
  last : lastP reps = lastO os
  up : ∀ s ∈ ups, UpOk (hs.map CallR.ops) s
  dn : ∀ s ∈ dns, DnOk (hs.map CallR.ops) os s
  ul : ups.length ≤ 2 * i
  dl : dns.length ≤ 2 * i
theorem PI.start : PI 0 [] [] [] [] [] [] := by
  refine ⟨Nat.le_refl _, fun k hk => by simp at hk, fun j k hjk hk => by simp at hk, fun k hk => by simp at hk, List.Pairwise.nil, fun v hv => by simp at hv, rfl, fun r hr => by simp at hr, rfl, fun s hs => by simp at hs, fun s hs => by simp at hs, by simp, by simp⟩
section
variable {i : Nat} {hs : List CallR} {os : List Int} {ups dns : List ByteArray} {reps : List RepR} {rows : List Rw}
theorem CallOk.up {i i' k : Nat} {y : CallR} (h : CallOk i k y) (hi : i ≤ i') : CallOk i' k y :=
  ⟨h.cl, h.sq, h.req, h.many, h.a0, by have := h.a1; omega, h.t.imp id fun ⟨a, b⟩ => ⟨a, by omega⟩⟩
theorem PI.bump (h : PI i hs os ups dns reps rows) : PI (i + 1) hs os ups dns reps rows :=
  ⟨by have := h.len; omega, fun k hk => (h.call k hk).up (by omega), h.mono, h.told, h.inc, h.rng, h.rws, h.rep, h.last, h.up, h.dn, by have := h.ul; omega, by have := h.dl; omega⟩
theorem PI.sub (h : PI i hs os ups dns reps rows) {ups' dns' : List ByteArray} (h1 : ∀ s ∈ ups', s ∈ ups) (h2 : ∀ s ∈ dns', s ∈ dns) (l1 : ups'.length ≤ 2 * i) (l2 : dns'.length ≤ 2 * i) : PI i hs os ups' dns' reps rows :=
  ⟨h.len, h.call, h.mono, h.told, h.inc, h.rng, h.rws, h.rep, h.last, fun s hs => h.up s (h1 s hs), fun s hs => h.dn s (h2 s hs), l1, l2⟩
theorem PI.addUp (h : PI i hs os ups dns reps rows) {s : ByteArray} (hs' : UpOk (hs.map CallR.ops) s) (hl : ups.length + 1 ≤ 2 * i) : PI i hs os (ups ++ [s]) dns reps rows :=
  ⟨h.len, h.call, h.mono, h.told, h.inc, h.rng, h.rws, h.rep, h.last, fun t ht => by
    rcases List.mem_append.1 ht with ht | ht
    · exact h.up t ht
    · obtain rfl := List.mem_singleton.1 ht
      exact hs', h.dn, by simpa using hl, h.dl⟩
theorem PI.addDn (h : PI i hs os ups dns reps rows) {s : ByteArray} (hs' : DnOk (hs.map CallR.ops) os s) (hl : dns.length + 1 ≤ 2 * i) : PI i hs os ups (dns ++ [s]) reps rows :=
  ⟨h.len, h.call, h.mono, h.told, h.inc, h.rng, h.rws, h.rep, h.last, h.up, fun t ht => by
    rcases List.mem_append.1 ht with ht | ht
    · exact h.dn t ht
    · obtain rfl := List.mem_singleton.1 ht
      exact hs', h.ul, by simpa using hl⟩
theorem PI.ask (h : PI i hs os ups dns reps rows) {y : CallR} (h1 : CallOk (i + 1) hs.length y) (h2 : y.asked = (i : Int) + 1) (h3 : y.told = 0) : PI (i + 1) (hs ++ [y]) os ups dns reps rows := by
  have hm : (hs ++ [y]).map CallR.ops = hs.map CallR.ops ++ [y.ops] := by simp
  have hr : InR (hs.map CallR.ops).length os := by simpa using h.rng
  refine ⟨by have := h.len; simp; omega, fun k hk => ?_, fun j k hjk hk => ?_, fun k hk ht => ?_, h.inc, fun v hv => by have := h.rng v hv; simp; omega, ?_, fun r hr' => ?_, h.last, fun s hs' => ?_, fun s hs' => ?_, by have := h.ul; omega, by have := h.dl; omega⟩
  · by_cases e : k < hs.length
    · rw [List.getElem_append_left e]
      exact (h.call k e).up (by omega)
    · have : k = hs.length := by simp at hk; omega
      subst this
      simpa using h1
  · by_cases e : k < hs.length
    · rw [List.getElem_append_left e, List.getElem_append_left (by omega)]
      exact h.mono j k hjk e
    · have hk' : k = hs.length := by simp at hk; omega
      subst hk'
      by_cases e2 : j < hs.length
      · rw [List.getElem_append_left e2]
        have := (h.call j e2).a1
        simp
        omega
      · have : j = hs.length := by omega
        subst this
        exact Int.le_refl _
  · by_cases e : k < hs.length
    · rw [List.getElem_append_left e] at ht ⊢
      obtain ⟨rs, h4, h5⟩ := h.told k e ht
      rw [hm]
      exact ⟨rs, h4.grow hr _, h5⟩
    · have : k = hs.length := by simp at hk; omega
      subst this
      simp [h3] at ht
  · rw [hm, rowsO_grow hr]
    exact h.rws
  · rw [hm]
    exact ⟨(h.rep r hr').1.grow hr _, (h.rep r hr').2⟩
  · rw [hm]
    obtain ⟨k, b, e1, e2, e3⟩ := h.up s hs'
    exact ⟨k, b, by simp at e1 ⊢; omega, by rw [getD_snoc _ _ _ e1]; exact e2, e3⟩
  · rw [hm]
    obtain ⟨sq, at_, code, rs, e1, e2⟩ := h.dn s hs'
    exact ⟨sq, at_, code, rs, e1.grow hr _, e2⟩
theorem lastO_snoc (os : List Int) (v : Int) : lastO (os ++ [v]) = v + 1 := by simp [lastO]
theorem PI.serve (h : PI i hs os ups dns reps rows) {sq : Int} {q : RepR} {depth : Nat} (h0 : 0 ≤ sq - 1) (h1 : sq - 1 < hs.length) (hl : lastP reps < sq) (hd : 1 ≤ depth) (e1 : q.sq = sq) (e2 : q.at_ = (doP rows ((hs.map CallR.ops).getD (sq - 1).toNat [])).at_) (e3 : q.code = (doP rows ((hs.map CallR.ops).getD (sq - 1).toNat [])).code) (e4 : q.rs = (doP rows ((hs.map CallR.ops).getD (sq - 1).toNat [])).res.map toS) (hok : replyOk 7 q.sq q.at_ q.code q.rs = true) :
    PI i hs (os ++ [sq - 1]) ups dns ((reps ++ [q]).drop (reps.length + 1 - depth)) (doP rows ((hs.map CallR.ops).getD (sq - 1).toNat [])).rows := by
  have hlo : lastO os < sq := by rw [← h.last]; exact hl
  refine ⟨h.len, h.call, h.mono, fun k hk ht => ?_, ?_, ?_, ?_, fun r hr => ?_, ?_, h.up, fun s hs' => ?_, h.ul, h.dl⟩
  · obtain ⟨rs, h4, h5⟩ := h.told k hk ht
    exact ⟨rs, h4.osnoc _, h5⟩
  · rw [List.pairwise_append]
    refine ⟨h.inc, List.pairwise_singleton _ _, fun a ha b hb => ?_⟩
    obtain rfl := List.mem_singleton.1 hb
    cases hos : os.getLast? with
    | none =>
      rw [List.getLast?_eq_none_iff] at hos
      rw [hos] at ha
      simp at ha
    | some v =>
      have hv : lastO os = v + 1 := by simp [lastO, hos]
      have hle : a ≤ v := by
        obtain ⟨ys, hy⟩ := List.getLast?_eq_some_iff.1 hos
        rw [hy] at ha
        rcases List.mem_append.1 ha with ha | ha
        · have hp := h.inc
          rw [hy, List.pairwise_append] at hp
          exact Int.le_of_lt (hp.2.2 a ha v (by simp))
        · obtain rfl := List.mem_singleton.1 ha
          exact Int.le_refl _
      omega
  · intro v hv
    rcases List.mem_append.1 hv with hv | hv
    · exact h.rng v hv
    · obtain rfl := List.mem_singleton.1 hv
      exact ⟨h0, h1⟩
  · rw [rowsO_snoc, ← h.rws]
  · have hr := List.mem_of_mem_drop hr
    rcases List.mem_append.1 hr with hr | hr
    · exact ⟨(h.rep r hr).1.osnoc _, (h.rep r hr).2⟩
    · obtain rfl := List.mem_singleton.1 hr
      refine ⟨?_, hok⟩
      have hR := Right.last (ol := hs.map CallR.ops) (os := os) sq
      rw [← h.rws, ← e2, ← e3, ← e4] at hR
      rw [e1]
      exact hR
  · rw [lastO_snoc]
    unfold lastP
    rw [List.getLast?_drop, if_neg (by simp; omega)]
    simp
    omega
  · obtain ⟨sq', at_, code, rs, e1, e2⟩ := h.dn s hs'
    exact ⟨sq', at_, code, rs, e1.osnoc _, e2⟩
end
end Go.Proofs.YtallnibjmffahaaGreatDoor

set_option linter.unusedVariables false
set_option linter.unusedSimpArgs false
namespace Go.Proofs.YtallnibjmffahaaGreatDoor
open Go.RowKit

theorem encP_fit {l : List FieldR} (h1 : l.length ≤ 4096) (h2 : (encB l).length ≤ 262144) : encP l = (⟨(encB l).toArray⟩, 0) := by
  unfold encP
  rw [if_neg (by omega), if_neg (by omega)]
theorem encB_two (v : Nat) (s : ByteArray) : (encB [intF v, txtF s]).length = lenB v + lenB s.size + s.size + 4 := by
  unfold encB FieldR.bytes intF txtF
  simp [numB_len]
  have : s.data.size = s.size := rfl
  omega
theorem sent_enc {s : ByteArray} (h : s.size ≤ 60000) : encP [intF 1, txtF s] = (sentB 1 s, 0) := by
  have h1 : lenB 1 ≤ 8 := lenB_le 8 1 (by decide)
  have h2 : lenB s.size ≤ 8 := lenB_le 8 _ (by omega)
  have h3 := encB_two 1 s
  have h4 := encP_fit (l := [intF 1, txtF s]) (by simp) (by
    have : ((1 : Nat) : Int) = 1 := rfl
    rw [← this, h3]
    omega)
  unfold sentB
  rw [h4]
theorem two_good {s : ByteArray} (h : s.size ≤ 262144) : ∀ f ∈ [intF 1, txtF s], f.good ∧ f.s.size ≤ 262144 := by
  intro f hf
  simp only [List.mem_cons, List.not_mem_nil, or_false] at hf
  rcases hf with rfl | rfl
  · exact good_int (by decide) (by decide)
  · exact good_txt h
/-- What came up is read. -/
theorem up_read {ol : List (List OpR)} {s : ByteArray} (h : UpOk ol s) : ∃ k b, k < ol.length ∧ decP s = ⟨[intF 1, txtF b], 0, 0⟩ ∧ odecP b = ⟨7, (k : Int) + 1, ol.getD k [], 0⟩ ∧ reqOk 7 ((k : Int) + 1) (ol.getD k []) = true := by
  obtain ⟨k, b, h1, h2, h3, rfl⟩ := h
  have h4 := oround h2
  exact ⟨k, b, h1, dec_enc (two_good (by omega)) (sent_enc h3), h4.1, h4.2⟩
/-- What comes down is read. -/
theorem dn_read {ol : List (List OpR)} {os : List Int} {s : ByteArray} (h : DnOk ol os s) : ∃ sq at_ code rs body, Right ol os sq at_ code rs ∧ decP s = ⟨[intF 1, txtF body], 0, 0⟩ ∧ decP body = ⟨repF 7 sq at_ code rs, 0, 0⟩ ∧ ¬ 262144 < body.size ∧ replyOk 7 sq at_ code rs = true := by
  obtain ⟨sq, at_, code, rs, h1, h2, h3⟩ := h
  unfold ansB at h2
  split at h2
  · rename_i hz
    have hr : rencP 7 sq at_ code rs = ((rencP 7 sq at_ code rs).1, 0) := by rw [← hz]
    obtain ⟨r1, r2, r3⟩ := rround hr
    have he : encP [intF 1, txtF (rencP 7 sq at_ code rs).1] = (s, 0) := by
      have h4 : (encP [intF 1, txtF (rencP 7 sq at_ code rs).1]).2 = 0 := by
        rw [h2] at h3
        unfold encP at h3 ⊢
        split
        · rename_i hh
          rw [if_pos hh] at h3
          exact absurd rfl h3
        · rename_i hh
          rw [if_neg hh] at h3
          split
          · rename_i hh2
            rw [if_pos hh2] at h3
            exact absurd rfl h3
          · rfl
      rw [h2, ← h4]
    exact ⟨sq, at_, code, rs, _, h1, dec_enc (two_good (by omega)) he, r1, r2, r3⟩
  · exact absurd h2 h3
theorem lists_eq {α : Type} {l m : List α} (h : l.length = m.length) (k : ∀ (i : Nat) (h1 : i < l.length) (h2 : i < m.length), l[i] = m[i]) : l = m := List.ext_getElem h k
theorem from_to {rs : List Res} (h : ∀ r ∈ rs, r.rows = []) : (rs.map toS).map fromS = rs := by
  rw [List.map_map]
  refine (List.map_congr_left fun r hr => ?_).trans (List.map_id rs)
  have := h r hr
  obtain ⟨a, b, c, d⟩ := r
  simp only at this
  subst this
  rfl
section
variable {i : Nat} {hs : List CallR} {os : List Int} {ups dns : List ByteArray} {reps : List RepR} {rows : List Rw}
theorem PI.tell (h : PI i hs os ups dns reps rows) {n : Nat} (hn : n < hs.length) {y : CallR} (h1 : y.cl = hs[n].cl) (h2 : y.sq = hs[n].sq) (h3 : y.ops = hs[n].ops) (h4 : y.asked = hs[n].asked) (h5 : y.told = i) (h6 : hs[n].asked ≤ i) {rs : List ResS} (hR : Right (hs.map CallR.ops) os ((n : Int) + 1) y.at_ y.code rs) (hres : y.res = rs.map fromS) :
    PI i (hs.set n y) os ups dns reps rows := by
  have hm : (hs.set n y).map CallR.ops = hs.map CallR.ops := by
    rw [List.map_set, h3]
    apply List.ext_getElem?
    intro k
    rw [List.getElem?_set]
    split
    · rename_i e
      subst e
      simp [hn]
    · rfl
  refine ⟨by simpa using h.len, fun k hk => ?_, fun j k hjk hk => ?_, fun k hk ht => ?_, h.inc, by simpa using h.rng, by rw [hm]; exact h.rws, fun r hr => by rw [hm]; exact h.rep r hr, h.last, fun s hs' => by rw [hm]; exact h.up s hs', fun s hs' => by rw [hm]; exact h.dn s hs', h.ul, h.dl⟩
  · have hk' : k < hs.length := by simpa using hk
    by_cases e : n = k
    · subst e
      have hc := h.call n hn
      rw [List.getElem_set_self]
      exact ⟨h1.trans hc.cl, h2.trans hc.sq, by rw [h3]; exact hc.req, by rw [h3]; exact hc.many, by rw [h4]; exact hc.a0, by rw [h4]; exact hc.a1, .inr ⟨by rw [h4, h5]; exact h6, by rw [h5]; exact Int.le_refl _⟩⟩
    · rw [List.getElem_set_ne e]
      exact h.call k hk'
  · have hk' : k < hs.length := by simpa using hk
    have ha : ∀ (q : Nat) (hq : q < hs.length) (hq' : q < (hs.set n y).length), ((hs.set n y)[q]).asked = hs[q].asked := by
      intro q hq hq'
      by_cases e : n = q
      · subst e
        rw [List.getElem_set_self]
        exact h4
      · rw [List.getElem_set_ne e]
    rw [ha j (by omega), ha k hk']
    exact h.mono j k hjk hk'
  · have hk' : k < hs.length := by simpa using hk
    by_cases e : n = k
    · subst e
      rw [hm]
      simp only [List.getElem_set_self]
      exact ⟨rs, hR, hres⟩
    · rw [hm]
      simp only [List.getElem_set_ne e] at ht ⊢
      exact h.told k hk' ht
theorem PI.judge (h : PI i hs os ups dns reps rows) (hi : i ≤ 120) : judgeP hs os = (0, 0) := by
  have hai : AllIn hs os := h.rng
  have hpos : ∀ (a b : Nat) (ha : a < os.length) (hb : b < os.length), os[a] = os[b] → a = b := by
    intro a b ha hb e
    rcases Nat.lt_trichotomy a b with hab | hab | hab
    · have := List.pairwise_iff_getElem.1 h.inc a b ha hb hab
      omega
    · exact hab
    · have := List.pairwise_iff_getElem.1 h.inc b a hb ha hab
      omega
  have hok : hs.any (fun x => !x.ok) = false := by
    refine List.any_eq_false.2 fun x hx => ?_
    obtain ⟨k, hk, rfl⟩ := List.mem_iff_getElem.1 hx
    have hc := h.call k hk
    have hq : reqOk hs[k].cl hs[k].sq hs[k].ops = true := by rw [hc.cl, hc.sq]; exact hc.req
    have : hs[k].ok = true := by
      unfold CallR.ok callOk
      rw [hq]
      have h1 := hc.a0
      have h2 := hc.a1
      have h3 := hc.t
      simp only [Bool.and_eq_true, Bool.or_eq_true, decide_eq_true_eq]
      refine ⟨⟨⟨h1, by omega⟩, ?_⟩, trivial⟩
      rcases h3 with h3 | ⟨h3, h4⟩
      · exact .inl h3
      · exact .inr ⟨h3, by omega⟩
    simp [this]
  have hord : firstI (ordBad hs.length os) os.length = none := by
    rw [firstI_none]
    intro j hj
    rw [ordBad_at hj]
    have h1 := h.rng _ (List.getElem_mem hj)
    have h2 : ¬ os[j] ∈ os.take j := by
      intro hm
      obtain ⟨q, hq, e⟩ := List.mem_iff_getElem.1 hm
      rw [List.getElem_take] at e
      rw [List.length_take] at hq
      have := hpos q j (by omega) hj e
      omega
    have e1 : decide (os[j] < 0) = false := decide_eq_false (by omega)
    have e2 : decide ((hs.length : Int) ≤ os[j]) = false := decide_eq_false (by omega)
    rw [e1, e2, decide_eq_false h2]
    rfl
  have hout : firstI (leftOut hs os) hs.length = none := by
    rw [firstI_none]
    intro j hj
    rw [leftOut_at hj]
    by_cases ht : 0 < hs[j].told
    · obtain ⟨rs, ⟨p, hp, e, _⟩, _⟩ := h.told j hj (by omega)
      have : (j : Int) ∈ os := by
        have := List.getElem_mem hp
        rw [e] at this
        simpa using this
      simp [this]
    · simp [ht]
  have hf : formP hs os = (0, 0) := formP_ok (by have := h.len; omega) hok hord hout
  refine judgeP_ok hf ?_ ?_
  · rw [firstI_none]
    intro p hp
    rw [agBad_at hp]
    rw [callsOf_len] at hp
    obtain ⟨k, hk, hc, e1, e2⟩ := callsOf_at hai hp
    rw [e2]
    by_cases ht : 0 < hs[k].told
    · have hany : ((callsOf hs os).take p).any (fun z => decide (hs[k].told < z.asked)) = false := by
        refine List.any_eq_false.2 fun z hz => ?_
        obtain ⟨q, hq, e⟩ := List.mem_iff_getElem.1 hz
        rw [List.getElem_take] at e
        rw [List.length_take, callsOf_len] at hq
        obtain ⟨k2, hk2, hc2, e3, e4⟩ := callsOf_at hai (show q < os.length by omega)
        rw [e4] at e
        subst e
        have hlt := List.pairwise_iff_getElem.1 h.inc q p (by omega) hp (by omega)
        have h1 := h.mono k2 k (by omega) hk
        have h2 := (h.call k hk).t
        simp
        omega
      rw [hany]
      simp
    · simp [ht]
  · rw [firstI_none]
    intro p hp
    rw [badAt_at hp]
    rw [callsOf_len] at hp
    obtain ⟨k, hk, hc, e1, e2⟩ := callsOf_at hai hp
    rw [e2]
    by_cases ht : 0 < hs[k].told
    · obtain ⟨rs, ⟨j, hj, g1, g2, g3, g4⟩, hres⟩ := h.told k hk (by omega)
      have hjp : j = p := hpos j p hj hp (by rw [g1, e1]; omega)
      subst hjp
      have hgd : (hs.map CallR.ops).getD ((k : Int) + 1 - 1).toNat [] = hs[k].ops := by
        rw [getD_map, show ((k : Int) + 1 - 1).toNat = k by omega, List.getD_eq_getElem?_getD, List.getElem?_eq_getElem hk]
        rfl
      rw [hgd] at g2 g3 g4
      have hct : (callsOf hs os).take j = callsOf hs (os.take j) := by
        unfold callsOf
        rw [List.map_take]
      have hts : hs[k].told_ ((callsOf hs os).take j) = true := by
        unfold CallR.told_ CallR.said
        rw [hct, rows_of]
        have hn := doP_norows (l := rowsO (hs.map CallR.ops) (os.take j)) (h.call k hk).many
        rw [hres, g4, from_to hn]
        simp [g2, g3]
      rw [hts]
      simp
    · simp [ht]
end
end Go.Proofs.YtallnibjmffahaaGreatDoor

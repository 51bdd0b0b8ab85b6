/- A map of stamps, by keys, that the call makes; what writes and deletes do to the rows. -/
import Derived.Test.YtehfaeafefkngaaTs
import Derived.Test.YtehfaeafefkngaaTl8
import Derived.Maps.OwnSet
import Derived.StringKeys
set_option linter.unusedVariables false
set_option linter.unusedSimpArgs false
namespace Go.Proofs.Ytehfaeafefkngaa
open Go.RowKit Go.Maps

/-- The stamp of a key; 0: it is not there. -/
def stampOf (l : List Rw) (k : ByteArray) : Int := match get l k with
  | some r => r.stamp
  | none => 0
def keyLit (k : ByteArray) : Lit := .string k.data.toList
theorem keyLit_inj {a b : ByteArray} (h : a ≠ b) : keyLit a ≠ keyLit b := by
  intro e
  unfold keyLit at e
  injection e with e
  exact h (key_ext e)
structure ReadsAs (D : DataW Unit) (l : List Rw) : Prop where
  size : Maps.size D = l.length
  at_ : ∀ k, D.atKey (keyLit k) (.lit (.int .i64 0)) = .lit (.int .i64 (stampOf l k))
  has : ∀ k, Maps.has D (keyLit k) = there k l
def Stamps (w : World) (b n : Nat) (l : List Rw) : Prop := ∃ D : DataW Unit, w.ownsMap Try.prog 9 (plainElem Try.prog 3) b n D ∧ ReadsAs D l
theorem strLaw : Keyed Try.prog 9 := string_keyed Try.underlying9
theorem zeroE (w : World) : (zeroValue 3).run Try.prog w = .ok (.int .i64 0) w := by kernel_rfl
theorem keyOf_str {k : ByteArray} (hk : k.size ≤ maxLen) : keyOf Try.prog 9 (.string k) = some (keyLit k) := Go.WideMaps.keyOf_string_mk Try.underlying9 hk

theorem ReadsAs.nil : ReadsAs (.map []) [] := ⟨rfl, fun k => rfl, fun k => rfl⟩
set_option maxRecDepth 100000 in
theorem Stamps.look {w : World} {b n : Nat} {l : List Rw} (h : Stamps w b n l) (k : ByteArray) (hk : k.size ≤ maxLen) (q : Nat) :
    (Instr.lookup 26 (.map (some b)) (.string k) false).run Try.prog (w.drewN q) = .ok (.int .i64 (stampOf l k)) (w.drewN q) := by
  obtain ⟨D, h, hR⟩ := h
  have h' : (w.drewN q).ownsMap Try.prog 9 (plainElem Try.prog 3) b n D := h
  obtain ⟨c, hrun, hat, _⟩ := h'.lookup_int strLaw Try.underlying26 Try.underlying3 (zeroE _) (keyOf_str hk)
  rw [hR.at_ k] at hat
  injection hat with hat
  injection hat with _ hat
  rw [hat]
  exact hrun
theorem ReadsAs.put {D : DataW Unit} {l l' : List Rw} (h : ReadsAs D l) (hD : Tidy D) {key : ByteArray} {r : Rw} (hg : ∀ k, get l' k = if k = key then some r else get l k) (hl : l'.length = if there key l then l.length else l.length + 1) :
    ReadsAs (D.put (keyLit key) (.lit (.int .i64 r.stamp))) l' := by
  refine ⟨?_, fun k => ?_, fun k => ?_⟩
  · rw [size_put hD, h.has, h.size, hl]
  · by_cases e : k = key
    · subst e
      rw [atKey_put_same hD.isMap (by trivial)]
      simp [stampOf, hg]
    · rw [atKey_put_other (keyLit_inj e), h.at_]
      simp [stampOf, hg, e]
  · by_cases e : k = key
    · subst e
      rw [has_put_same hD.isMap (by trivial), there_get, hg, if_pos rfl]
      rfl
    · rw [has_put_other (keyLit_inj e), h.has, there_get, there_get, hg, if_neg e]
theorem ReadsAs.del {D : DataW Unit} {l l' : List Rw} (h : ReadsAs D l) (hD : Tidy D) {key : ByteArray} (hg : ∀ k, get l' k = if k = key then none else get l k) (ht : there key l = true) (hl : l'.length + 1 = l.length) :
    ReadsAs (D.del (keyLit key)) l' := by
  refine ⟨?_, fun k => ?_, fun k => ?_⟩
  · have := size_del (k := keyLit key) hD
    rw [h.has, ht, h.size, if_pos rfl] at this
    omega
  · by_cases e : k = key
    · subst e
      rw [atKey_del_same]
      simp [stampOf, hg]
    · rw [atKey_del_other (keyLit_inj e), h.at_]
      simp [stampOf, hg, e]
  · by_cases e : k = key
    · subst e
      rw [has_del_same, there_get, hg, if_pos rfl]
      rfl
    · rw [has_del_other (keyLit_inj e), h.has, there_get, there_get, hg, if_neg e]

theorem rise_refused {l : List Rw} {x : OpR} (hc : (oneP l x).2.code ≠ 0) : (oneP l x).1 = l := by
  have h1 : (writeP l x).1 = l ∨ (writeP l x).2.code = 0 := by
    unfold writeP
    dsimp only
    repeat' split
    all_goals first
      | exact .inl rfl
      | exact .inr rfl
  have h2 : (oneP l x).1 = l ∨ (oneP l x).2.code = 0 := by
    unfold oneP
    dsimp only
    repeat' split
    all_goals first
      | exact .inl rfl
      | exact .inr rfl
      | exact h1
  exact h2.resolve_right hc
theorem rise_del {l : List Rw} (h : Sorted l) (hl : l.length < 4096) {x : OpR} (h4 : x.kind = 4) (hc : (oneP l x).2.code = 0) :
    there x.key l = true ∧ (oneP l x).2.stamp = stampOf l x.key ∧ (∀ k, get (oneP l x).1 k = if k = x.key then none else get l k) ∧ (oneP l x).1.length + 1 = l.length := by
  obtain ⟨h1, h2⟩ := oneP_get h hl x (by omega)
  have ht : there x.key l = true := by
    cases ht : there x.key l with
    | true => rfl
    | false =>
      exfalso
      have : get l x.key = none := by
        rw [there_get] at ht
        cases hg : get l x.key with
        | none => rfl
        | some r => rw [hg] at ht; cases ht
      rw [h1, this] at hc
      simp [opG, h4, Res.fail] at hc
  refine ⟨ht, ?_⟩
  cases hg : get l x.key with
  | none => rw [there_get, hg] at ht; cases ht
  | some r =>
    rw [hg] at h1 h2
    rw [h1] at hc
    have hn : ¬ (x.test ≠ 0 ∧ x.test ≠ r.stamp) := by
      intro e
      simp [opG, h4, e, Res.fail] at hc
    have ho : opG (some r) x = (none, .fail 0 r.stamp) := by
      unfold opG
      simp only [h4]
      rw [if_pos (Or.inl trivial)]
      rw [if_neg hn, if_neg (by omega)]
    rw [ho] at h1 h2
    refine ⟨by rw [h1]; simp [stampOf, hg, Res.fail], h2, ?_⟩
    have hp := (pos_lt h ht).1
    have hrs : rowAt l (pos x.key l) = r := rowAt_get h hg
    have : (oneP l x).1 = l.take (pos x.key l) ++ l.drop (pos x.key l + 1) := by
      unfold oneP
      dsimp only
      rw [if_neg (by omega), if_pos (Or.inl h4), if_neg (by rw [ht]; simp), hrs, if_neg hn, if_neg (by omega)]
    rw [this, List.length_append, List.length_take, List.length_drop]
    omega
theorem rise_put {l : List Rw} (h : Sorted l) (hl : l.length < 4096) {x : OpR} (h4 : x.kind ≠ 4) (h5 : x.kind ≠ 5) (h6 : x.kind ≠ 6) (hs : 1 ≤ x.stamp) (hc : (oneP l x).2.code = 0) :
    stampOf l x.key < x.stamp ∧ (x.kind = 1 → stampOf l x.key = 0) ∧ (∀ k, get (oneP l x).1 k = if k = x.key then some ⟨x.key, x.stamp, x.val⟩ else get l k) ∧ (oneP l x).1.length = if there x.key l then l.length else l.length + 1 := by
  obtain ⟨h1, h2⟩ := oneP_get h hl x h6
  have hp := pos_le x.key l
  have hlen : (writeP l x).2.code = 0 → (writeP l x).1.length = if there x.key l then l.length else l.length + 1 := by
    intro hc
    have key : (writeP l x).2.code ≠ 0 ∨ (writeP l x).1.length = if there x.key l then l.length else l.length + 1 := by
      cases ht : there x.key l with
      | true =>
        have := (pos_lt h ht).1
        unfold writeP
        dsimp only
        rw [ht]
        repeat' split
        all_goals first
          | (left; simp [Res.fail]; done)
          | (right; simp; omega)
          | (exfalso; simp_all; done)
      | false =>
        unfold writeP
        dsimp only
        rw [ht]
        repeat' split
        all_goals first
          | (left; simp [Res.fail]; done)
          | (right; simp; omega)
          | (exfalso; simp_all; done)
    exact key.resolve_left (fun h => h hc)
  have hw : oneP l x = writeP l x := by
    unfold oneP
    dsimp only
    rw [if_neg h6, if_neg (by omega)]
  rw [hw] at hc h1 h2 ⊢
  have h3 := hlen hc
  rw [h1] at hc
  cases hg : get l x.key with
  | none =>
    rw [hg] at hc h2
    have ho : (opG none x).1 = some ⟨x.key, x.stamp, x.val⟩ := by
      unfold opG at hc ⊢
      rw [if_neg (by omega)] at hc ⊢
      dsimp only at hc ⊢
      split at hc
      · simp [Res.fail] at hc
      · rename_i q1
        split at hc
        · simp [Res.fail] at hc
        · rename_i q2
          rw [if_neg q1, if_neg q2]
    rw [ho] at h2
    exact ⟨by simp [stampOf, hg]; omega, fun _ => by simp [stampOf, hg], h2, h3⟩
  | some r =>
    rw [hg] at hc h2
    have ho : (opG (some r) x).1 = some ⟨x.key, x.stamp, x.val⟩ ∧ r.stamp < x.stamp ∧ x.kind ≠ 1 := by
      unfold opG at hc ⊢
      rw [if_neg (by omega)] at hc ⊢
      dsimp only at hc ⊢
      split at hc
      · simp [Res.fail] at hc
      · rename_i q0
        split at hc
        · simp [Res.fail] at hc
        · rename_i q1
          split at hc
          · simp [Res.fail] at hc
          · rename_i q2
            rw [if_neg q0, if_neg q1, if_neg q2]
            exact ⟨rfl, by omega, q0⟩
    rw [ho.1] at h2
    exact ⟨by simpa [stampOf, hg] using ho.2.1, fun e => absurd e ho.2.2, h2, h3⟩
/-- Reading a key. -/
theorem rise_get {l : List Rw} (h : Sorted l) (hl : l.length < 4096) (key : ByteArray) (hk : 1 ≤ key.size) (hk2 : key.size ≤ 64) :
    doP l [⟨5, key, ⟨#[]⟩, 0, 0, 0⟩] = ⟨l, [match get l key with | some r => ⟨0, r.stamp, r.val, []⟩ | none => ⟨91, 0, ⟨#[]⟩, []⟩], 0, 0⟩ := by
  have ho : opOk ⟨5, key, ⟨#[]⟩, 0, 0, 0⟩ = true := by
    have h1 : (1 : Int) ≤ (key.size : Int) := by omega
    have h2 : (key.size : Int) ≤ 64 := by omega
    simp [opOk, keyOk, numOk, h1, h2]
    rfl
  rw [doP_one, if_pos ho]
  obtain ⟨h1, _⟩ := oneP_get h hl ⟨5, key, ⟨#[]⟩, 0, 0, 0⟩ (by simp)
  rw [h1, reads_only ho rfl]
  cases hg : get l key with
  | none => simp [opG, hg, Res.fail]
  | some r => simp [opG, hg]
end Go.Proofs.Ytehfaeafefkngaa

/- Spans, plain: normal lists, and the sweep over ends. -/
import Derived.Test.YtkjopeiohjkhoaaSh
set_option linter.unusedVariables false
set_option linter.unusedSimpArgs false
namespace Go.Proofs.Ytkjopeiohjkhoaa

abbrev inL (l : List SpanR) (k : ByteArray) : Bool := l.any (hasP k)
theorem hasP_iff (k : ByteArray) (s : SpanR) : hasP k s = true ↔ ¬ klt k s.from_ ∧ (s.to_.size = 0 ∨ klt k s.to_) := by
  unfold hasP
  rw [Bool.and_eq_true, Bool.or_eq_true, Bool.not_eq_true', decide_eq_false_iff_not, decide_eq_true_iff, decide_eq_true_iff]
theorem inL_iff (l : List SpanR) (k : ByteArray) : inL l k = true ↔ ∃ s ∈ l, ¬ klt k s.from_ ∧ (s.to_.size = 0 ∨ klt k s.to_) := by
  rw [List.any_eq_true]
  constructor
  · rintro ⟨s, h1, h2⟩; exact ⟨s, h1, (hasP_iff _ _).1 h2⟩
  · rintro ⟨s, h1, h2⟩; exact ⟨s, h1, (hasP_iff _ _).2 h2⟩
theorem inL_cons (s : SpanR) (r : List SpanR) (k : ByteArray) : inL (s :: r) k = (hasP k s || inL r k) := List.any_cons
theorem inL_snoc (s : SpanR) (r : List SpanR) (k : ByteArray) : inL (r ++ [s]) k = (inL r k || hasP k s) := by simp [inL]

def OkS (s : SpanR) : Prop := s.to_.size = 0 ∨ klt s.from_ s.to_
/-- A normal list. -/
def Nrm : List SpanR → Prop
  | [] => True
  | s :: r => OkS s ∧ (s.to_.size = 0 → r = []) ∧ (∀ t ∈ r, klt s.to_ t.from_) ∧ Nrm r

theorem nrm_head {s : SpanR} {r : List SpanR} (h : Nrm (s :: r)) : inL (s :: r) s.from_ = true := by
  rw [inL_cons, (hasP_iff _ _).2 ⟨klt_irrefl _, h.1⟩]; rfl
theorem nrm_after {s : SpanR} {r : List SpanR} (h : Nrm (s :: r)) {k : ByteArray} (hk : inL r k = true) : s.to_.size ≠ 0 ∧ klt s.to_ k := by
  obtain ⟨t, ht, h1, _⟩ := (inL_iff _ _).1 hk
  refine ⟨fun e => ?_, klt_not_trans (h.2.2.1 t ht) h1⟩
  rw [h.2.1 e] at ht
  cases ht
theorem nrm_min {s : SpanR} {r : List SpanR} (h : Nrm (s :: r)) {k : ByteArray} (hk : inL (s :: r) k = true) : ¬ klt k s.from_ := by
  rw [inL_cons, Bool.or_eq_true] at hk
  rcases hk with hk | hk
  · exact ((hasP_iff _ _).1 hk).1
  · obtain ⟨h1, h2⟩ := nrm_after h hk
    exact klt_asymm (klt_trans (h.1.resolve_left h1) h2)
theorem nrm_to {s : SpanR} {r : List SpanR} (h : Nrm (s :: r)) (hz : s.to_.size ≠ 0) : inL (s :: r) s.to_ = false := by
  rw [Bool.eq_false_iff]
  intro e
  rw [inL_cons, Bool.or_eq_true] at e
  rcases e with e | e
  · rcases ((hasP_iff _ _).1 e).2 with h1 | h1
    · exact hz h1
    · exact klt_irrefl _ h1
  · exact klt_irrefl _ (nrm_after h e).2
theorem nrm_uniq : ∀ (l l' : List SpanR), Nrm l → Nrm l' → (∀ k, inL l k = inL l' k) → l = l'
  | [], [], _, _, _ => rfl
  | [], s :: r, _, h, e => by
    have h1 := nrm_head h
    rw [← e] at h1
    simp [inL] at h1
  | s :: r, [], h, _, e => by
    have h1 := nrm_head h
    rw [e] at h1
    simp [inL] at h1
  | s :: r, s' :: r', h, h', e => by
    have hf : s.from_ = s'.from_ := by
      rcases klt_tri s.from_ s'.from_ with h1 | h1 | h1
      · exact absurd h1 (nrm_min h' ((e _).symm.trans (nrm_head h)))
      · exact h1
      · exact absurd h1 (nrm_min h ((e _).trans (nrm_head h')))
    have ht : s.to_ = s'.to_ := by
      by_cases z : s.to_.size = 0
      · by_cases z' : s'.to_.size = 0
        · rw [size_zero z, size_zero z']
        · have h1 := nrm_to h' z'
          rw [← e, inL_cons, (hasP_iff _ _).2 ⟨by rw [hf]; exact klt_asymm (h'.1.resolve_left z'), .inl z⟩] at h1
          cases h1
      · by_cases z' : s'.to_.size = 0
        · have h1 := nrm_to h z
          rw [e, inL_cons, (hasP_iff _ _).2 ⟨by rw [← hf]; exact klt_asymm (h.1.resolve_left z), .inl z'⟩] at h1
          cases h1
        · rcases klt_tri s.to_ s'.to_ with h1 | h1 | h1
          · have h2 := nrm_to h z
            rw [e, inL_cons, (hasP_iff _ _).2 ⟨by rw [← hf]; exact klt_asymm (h.1.resolve_left z), .inr h1⟩] at h2
            cases h2
          · exact h1
          · have h2 := nrm_to h' z'
            rw [← e, inL_cons, (hasP_iff _ _).2 ⟨by rw [hf]; exact klt_asymm (h'.1.resolve_left z'), .inr h1⟩] at h2
            cases h2
    have hs : s = s' := by
      obtain ⟨f, t⟩ := s
      obtain ⟨f', t'⟩ := s'
      simp only at hf ht
      rw [hf, ht]
    subst hs
    have hr : r = r' := by
      refine nrm_uniq r r' h.2.2.2 h'.2.2.2 fun k => ?_
      rw [Bool.eq_iff_iff]
      have no : ∀ {r : List SpanR}, Nrm (s :: r) → inL r k = true → hasP k s = false := fun {r} h hk => by
        obtain ⟨z, h1⟩ := nrm_after h hk
        rw [Bool.eq_false_iff]
        intro hh
        exact klt_asymm h1 (((hasP_iff _ _).1 hh).2.resolve_left z)
      have ek := e k
      rw [inL_cons, inL_cons] at ek
      constructor
      · intro hk
        rw [no h hk, hk] at ek
        simpa using ek.symm
      · intro hk
        rw [no h' hk, hk] at ek
        simpa using ek
    rw [hr]
theorem nrm_snoc {t : SpanR} (ht : OkS t) : ∀ {o : List SpanR}, Nrm o → (∀ s ∈ o, s.to_.size ≠ 0) → (∀ s ∈ o, klt s.to_ t.from_) → Nrm (o ++ [t])
  | [], _, _, _ => ⟨ht, fun _ => rfl, fun _ h => by simp at h, trivial⟩
  | s :: r, h, h1, h2 => ⟨h.1, fun e => absurd e (h1 s List.mem_cons_self), fun u hu => by
      rcases List.mem_append.1 hu with hu | hu
      · exact h.2.2.1 u hu
      · rw [List.mem_singleton] at hu
        subst hu
        exact h2 s List.mem_cons_self, nrm_snoc ht h.2.2.2 (fun u hu => h1 u (List.mem_cons_of_mem _ hu)) (fun u hu => h2 u (List.mem_cons_of_mem _ hu))⟩
theorem nrm_unsnoc {t : SpanR} : ∀ {o : List SpanR}, Nrm (o ++ [t]) → Nrm o ∧ (∀ s ∈ o, s.to_.size ≠ 0 ∧ klt s.to_ t.from_)
  | [], _ => ⟨trivial, fun _ h => by simp at h⟩
  | s :: r, h => by
    obtain ⟨h1, h2⟩ := nrm_unsnoc (o := r) h.2.2.2
    have hz : s.to_.size ≠ 0 := fun e => by simpa using h.2.1 e
    refine ⟨⟨h.1, fun e => absurd e hz, fun u hu => h.2.2.1 u (List.mem_append_left _ hu), h1⟩, fun u hu => ?_⟩
    rcases List.mem_cons.1 hu with rfl | hu
    · exact ⟨hz, h.2.2.1 t (by simp)⟩
    · exact h2 u hu

theorem snoc_ind {α : Type} {p : List α → Prop} (h0 : p []) (h1 : ∀ l x, p l → p (l ++ [x])) (l : List α) : p l := by
  have h : ∀ l : List α, p l.reverse := by
    intro l
    induction l with
    | nil => exact h0
    | cons x l ih => rw [List.reverse_cons]; exact h1 _ _ ih
  have := h l.reverse
  rwa [List.reverse_reverse] at this
/-- f at the greatest of ks that is not behind k. -/
def gAt (f : ByteArray → Bool) (ks : List ByteArray) (k : ByteArray) : Bool := ks.foldl (fun acc x => if klt k x then acc else f x) false
theorem gAt_snoc (f : ByteArray → Bool) (ks : List ByteArray) (x k : ByteArray) : gAt f (ks ++ [x]) k = if klt k x then gAt f ks k else f x := by
  simp [gAt, List.foldl_append]
theorem gAt_eq {f : ByteArray → Bool} {k : ByteArray} : ∀ {ks : List ByteArray}, ks.Pairwise klt → ((∀ x ∈ ks, klt k x) → f k = false) → (∀ x ∈ ks, ¬ klt k x → (∀ y ∈ ks, ¬ klt k y → ¬ klt x y) → f x = f k) → gAt f ks k = f k := by
  intro ks
  induction ks using snoc_ind with
  | h0 => intro _ h _; rw [h (fun _ h => by cases h)]; rfl
  | h1 ks x ih =>
    intro hs h1 h2
    rw [gAt_snoc]
    obtain ⟨hs1, _, hs2⟩ := List.pairwise_append.1 hs
    by_cases hk : klt k x
    · rw [if_pos hk]
      refine ih hs1 (fun h => h1 fun y hy => ?_) (fun y hy hy1 hy2 => h2 y (List.mem_append_left _ hy) hy1 fun z hz hz1 => ?_)
      · rcases List.mem_append.1 hy with hy | hy
        · exact h y hy
        · rw [List.mem_singleton] at hy
          subst hy; exact hk
      · rcases List.mem_append.1 hz with hz | hz
        · exact hy2 z hz hz1
        · rw [List.mem_singleton] at hz
          subst hz; exact absurd hk hz1
    · rw [if_neg hk]
      refine h2 x (by simp) hk fun y hy hy1 => ?_
      rcases List.mem_append.1 hy with hy | hy
      · exact klt_asymm (hs2 y hy x (by simp))
      · rw [List.mem_singleton] at hy
        subst hy; exact klt_irrefl _

/-- What the sweep has made of the keys ks. -/
structure Mk (f : ByteArray → Bool) (ks : List ByteArray) (out : List SpanR) (was : Bool) : Prop where
  nrm : Nrm out
  low : ∀ s ∈ out, s.from_ ∈ ks ∧ (s.to_.size = 0 ∨ s.to_ ∈ ks)
  sem : ∀ k, inL out k = gAt f ks k
  op : was = true → ∃ o y, out = o ++ [⟨y, ⟨#[]⟩⟩]
  cl : was = false → ∀ s ∈ out, s.to_.size ≠ 0
  len : out.length ≤ ks.length
theorem Mk.nil (f : ByteArray → Bool) : Mk f [] [] false := ⟨trivial, fun _ h => (by cases h), fun _ => rfl, fun h => (by cases h), fun _ _ h => (by cases h), Nat.le_refl _⟩
section
variable {f : ByteArray → Bool} {ks : List ByteArray} {out : List SpanR} {was : Bool} {x : ByteArray}
theorem lowUp (h : ∀ s ∈ out, s.from_ ∈ ks ∧ (s.to_.size = 0 ∨ s.to_ ∈ ks)) : ∀ s ∈ out, s.from_ ∈ ks ++ [x] ∧ (s.to_.size = 0 ∨ s.to_ ∈ ks ++ [x]) :=
  fun s hs => ⟨List.mem_append_left _ (h s hs).1, (h s hs).2.imp id (List.mem_append_left _)⟩
theorem Mk.same (h : Mk f ks out was) (hx : ∀ y ∈ ks, klt y x) (hf : f x = was) : Mk f (ks ++ [x]) out was := by
  refine ⟨h.nrm, lowUp h.low, fun k => ?_, h.op, h.cl, by have := h.len; simp; omega⟩
  rw [gAt_snoc]
  by_cases hk : klt k x
  · rw [if_pos hk]; exact h.sem k
  · rw [if_neg hk, hf]
    cases was with
    | true =>
      obtain ⟨o, y, rfl⟩ := h.op rfl
      rw [inL_snoc, (hasP_iff _ _).2 ⟨fun e => hk (klt_trans e (hx y (h.low ⟨y, ⟨#[]⟩⟩ (by simp)).1)), .inl rfl⟩, Bool.or_true]
    | false =>
      rw [Bool.eq_false_iff]
      intro e
      obtain ⟨s, hs, _, h2⟩ := (inL_iff _ _).1 e
      have hz := h.cl rfl s hs
      exact hk (klt_trans (h2.resolve_left hz) (hx _ ((h.low s hs).2.resolve_left hz)))
theorem Mk.opens (h : Mk f ks out false) (hx : ∀ y ∈ ks, klt y x) (hf : f x = true) : Mk f (ks ++ [x]) (out ++ [⟨x, ⟨#[]⟩⟩]) true := by
  refine ⟨nrm_snoc (.inl rfl) h.nrm (h.cl rfl) (fun s hs => hx _ ((h.low s hs).2.resolve_left (h.cl rfl s hs))), fun s hs => ?_, fun k => ?_, fun _ => ⟨_, _, rfl⟩, fun e => (by cases e), by have := h.len; simp; omega⟩
  · rcases List.mem_append.1 hs with hs | hs
    · exact lowUp h.low s hs
    · rw [List.mem_singleton] at hs
      subst hs
      exact ⟨by simp, .inl rfl⟩
  · rw [gAt_snoc, inL_snoc]
    by_cases hk : klt k x
    · rw [if_pos hk, h.sem k]
      have : hasP k ⟨x, ⟨#[]⟩⟩ = false := by
        rw [Bool.eq_false_iff]; intro e
        exact ((hasP_iff _ _).1 e).1 hk
      rw [this, Bool.or_false]
    · rw [if_neg hk, hf, (hasP_iff _ _).2 ⟨hk, .inl rfl⟩, Bool.or_true]
theorem Mk.closes {o : List SpanR} {y : ByteArray} (h : Mk f ks (o ++ [⟨y, ⟨#[]⟩⟩]) true) (hx : ∀ y ∈ ks, klt y x) (hf : f x = false) : Mk f (ks ++ [x]) (o ++ [⟨y, x⟩]) false := by
  obtain ⟨hn, ho⟩ := nrm_unsnoc h.nrm
  have hy : y ∈ ks := (h.low ⟨y, ⟨#[]⟩⟩ (by simp)).1
  have hyx := hx y hy
  have xz : x.size ≠ 0 := fun e => by rw [size_zero e] at hyx; exact not_lt_nil _ hyx
  refine ⟨nrm_snoc (.inr hyx) hn (fun s hs => (ho s hs).1) (fun s hs => (ho s hs).2), fun s hs => ?_, fun k => ?_, fun e => (by cases e), fun _ s hs => ?_, by have := h.len; simp at this ⊢; omega⟩
  · rcases List.mem_append.1 hs with hs | hs
    · exact lowUp h.low s (List.mem_append_left _ hs)
    · rw [List.mem_singleton] at hs
      subst hs
      exact ⟨List.mem_append_left _ hy, .inr (by simp)⟩
  · rw [gAt_snoc, inL_snoc]
    by_cases hk : klt k x
    · rw [if_pos hk, ← h.sem k, inL_snoc]
      congr 1
      rw [Bool.eq_iff_iff, hasP_iff, hasP_iff]
      exact ⟨fun e => ⟨e.1, .inl rfl⟩, fun e => ⟨e.1, .inr hk⟩⟩
    · rw [if_neg hk, hf]
      rw [Bool.eq_false_iff]
      intro e
      rw [Bool.or_eq_true] at e
      rcases e with e | e
      · obtain ⟨s, hs, _, h2⟩ := (inL_iff _ _).1 e
        exact hk (klt_trans (klt_trans (h2.resolve_left (ho s hs).1) (ho s hs).2) hyx)
      · exact hk (((hasP_iff _ _).1 e).2.resolve_left xz)
  · rcases List.mem_append.1 hs with hs | hs
    · exact (ho s hs).1
    · rw [List.mem_singleton] at hs
      subst hs
      exact xz
end

/-- All ends of l are in ks. -/
def Ends (l : List SpanR) (ks : List ByteArray) : Prop := ∀ s ∈ l, s.from_ ∈ ks ∧ (s.to_.size = 0 ∨ s.to_ ∈ ks)
theorem in_low {l : List SpanR} {ks : List ByteArray} (he : Ends l ks) {k : ByteArray} (h : ∀ x ∈ ks, klt k x) : inL l k = false := by
  rw [Bool.eq_false_iff]
  intro e
  obtain ⟨s, hs, h1, _⟩ := (inL_iff _ _).1 e
  exact h1 (h _ (he s hs).1)
theorem in_max {l : List SpanR} {ks : List ByteArray} (he : Ends l ks) {k x : ByteArray} (hx : ¬ klt k x) (hm : ∀ y ∈ ks, ¬ klt k y → ¬ klt x y) : inL l x = inL l k := by
  rw [Bool.eq_iff_iff, inL_iff, inL_iff]
  constructor
  · rintro ⟨s, hs, h1, h2⟩
    refine ⟨s, hs, fun e => h1 (not_klt_trans hx e), ?_⟩
    rcases (he s hs).2 with h3 | h3
    · exact .inl h3
    · exact h2.imp id fun h2 => Decidable.byContradiction fun h4 => hm _ h3 h4 h2
  · rintro ⟨s, hs, h1, h2⟩
    refine ⟨s, hs, hm _ (he s hs).1 h1, h2.imp id fun h2 => not_klt_trans hx h2⟩
/-- What is made of two lists by a rule. -/
structure Made (rf : Bool → Bool → Bool) (a b out : List SpanR) : Prop where
  nrm : Nrm out
  sem : ∀ k, inL out k = rf (inL a k) (inL b k)
  low : ∀ s ∈ out, (∃ t ∈ a ++ b, s.from_ = t.from_ ∨ s.from_ = t.to_) ∧ (s.to_.size = 0 ∨ ∃ t ∈ a ++ b, s.to_ = t.from_ ∨ s.to_ = t.to_)
  len : out.length ≤ 2 * (a.length + b.length)
theorem Made.uniq {rf : Bool → Bool → Bool} {a b o o' : List SpanR} (h : Made rf a b o) (h' : Made rf a b o') : o = o' :=
  nrm_uniq _ _ h.nrm h'.nrm fun k => (h.sem k).trans (h'.sem k).symm

structure EndR where
  key : ByteArray
  list : Int
  by_ : Int
def EndR.enc (s : EndR) : List Value := [.string s.key, .int .i64 s.list, .int .i64 s.by_]
instance : Inhabited EndR := ⟨⟨⟨#[]⟩, 0, 0⟩⟩
def end1 (i : Int) (s : SpanR) : List EndR := ⟨s.from_, i, 1⟩ :: if s.to_.size = 0 then [] else [⟨s.to_, i, -1⟩]
def endsOf (i : Int) (l : List SpanR) : List EndR := l.flatMap (end1 i)
theorem endsOf_cons (i : Int) (s : SpanR) (l : List SpanR) : endsOf i (s :: l) = end1 i s ++ endsOf i l := rfl
theorem endsOf_snoc (i : Int) (s : SpanR) (l : List SpanR) : endsOf i (l ++ [s]) = endsOf i l ++ end1 i s := by simp [endsOf]
theorem endsOf_len (i : Int) : ∀ l : List SpanR, (endsOf i l).length ≤ 2 * l.length
  | [] => by simp [endsOf]
  | s :: l => by
    have := endsOf_len i l
    rw [endsOf_cons, List.length_append, List.length_cons]
    have h2 : (end1 i s).length ≤ 2 := by unfold end1; split <;> simp
    omega
theorem endsOf_mem {i : Int} {l : List SpanR} {e : EndR} (h : e ∈ endsOf i l) : e.list = i ∧ (e.by_ = 1 ∨ e.by_ = -1) ∧ ∃ t ∈ l, e.key = t.from_ ∨ e.key = t.to_ := by
  unfold endsOf at h
  obtain ⟨s, hs, he⟩ := List.mem_flatMap.1 h
  unfold end1 at he
  rcases List.mem_cons.1 he with rfl | he
  · exact ⟨rfl, .inl rfl, s, hs, .inl rfl⟩
  · split at he
    · cases he
    · rw [List.mem_singleton] at he
      subst he
      exact ⟨rfl, .inr rfl, s, hs, .inr rfl⟩
theorem ends_in {i : Int} {l : List SpanR} {s : SpanR} (hs : s ∈ l) : (∃ e ∈ endsOf i l, e.key = s.from_) ∧ (s.to_.size = 0 ∨ ∃ e ∈ endsOf i l, e.key = s.to_) := by
  refine ⟨⟨_, List.mem_flatMap.2 ⟨s, hs, List.mem_cons_self⟩, rfl⟩, ?_⟩
  by_cases h : s.to_.size = 0
  · exact .inl h
  · refine .inr ⟨⟨s.to_, i, -1⟩, List.mem_flatMap.2 ⟨s, hs, ?_⟩, rfl⟩
    unfold end1
    rw [if_neg h]
    simp
/-- How many of list j are open behind L. -/
def sumJ (j : Int) : List EndR → Int
  | [] => 0
  | e :: l => (if e.list = j then e.by_ else 0) + sumJ j l
theorem sumJ_app (j : Int) : ∀ (l r : List EndR), sumJ j (l ++ r) = sumJ j l + sumJ j r
  | [], r => by simp [sumJ]
  | e :: l, r => by rw [List.cons_append, sumJ, sumJ, sumJ_app j l r]; omega
theorem sumJ_perm (j : Int) {l r : List EndR} (h : l.Perm r) : sumJ j l = sumJ j r := by
  induction h with
  | nil => rfl
  | cons x _ ih => rw [sumJ, sumJ, ih]
  | swap x y l => simp only [sumJ]; omega
  | trans _ _ h1 h2 => exact h1.trans h2
theorem sumJ_ends (i j : Int) (x : ByteArray) : ∀ l : List SpanR, (∀ s ∈ l, OkS s) → sumJ j ((endsOf i l).filter fun e => !decide (klt x e.key)) = if i = j then ((l.filter (hasP x)).length : Int) else 0
  | [], _ => by simp [endsOf, sumJ]
  | s :: l, h => by
    have ih := sumJ_ends i j x l (fun t ht => h t (List.mem_cons_of_mem _ ht))
    have hs := h s List.mem_cons_self
    rw [endsOf_cons, List.filter_append, sumJ_app, ih, List.filter_cons]
    by_cases hf : klt x s.from_
    · have h1 : hasP x s = false := by rw [Bool.eq_false_iff]; intro e; exact ((hasP_iff _ _).1 e).1 hf
      rw [h1]
      have h2 : sumJ j ((end1 i s).filter fun e => !decide (klt x e.key)) = 0 := by
        unfold end1
        by_cases hz : s.to_.size = 0
        · simp only [if_pos hz, List.filter_cons, List.filter_nil, decide_eq_true hf]
          rfl
        · have h3 : klt x s.to_ := klt_trans hf (hs.resolve_left hz)
          simp only [if_neg hz, List.filter_cons, List.filter_nil, decide_eq_true hf, decide_eq_true h3]
          rfl
      rw [h2]
      simp
    · by_cases ht : s.to_.size = 0 ∨ klt x s.to_
      · rw [(hasP_iff _ _).2 ⟨hf, ht⟩]
        have h2 : sumJ j ((end1 i s).filter fun e => !decide (klt x e.key)) = if i = j then 1 else 0 := by
          unfold end1
          by_cases hz : s.to_.size = 0
          · simp only [if_pos hz, List.filter_cons, List.filter_nil, decide_eq_false hf]
            simp [sumJ]
          · have h3 : klt x s.to_ := ht.resolve_left hz
            simp only [if_neg hz, List.filter_cons, List.filter_nil, decide_eq_false hf, decide_eq_true h3]
            simp [sumJ]
        rw [h2]
        by_cases hij : i = j
        · simp only [if_pos hij, if_true, List.length_cons]; omega
        · simp [hij]
      · have hz : s.to_.size ≠ 0 := fun e => ht (.inl e)
        have hk : ¬ klt x s.to_ := fun e => ht (.inr e)
        have h1 : hasP x s = false := by rw [Bool.eq_false_iff]; intro e; exact ht ((hasP_iff _ _).1 e).2
        rw [h1]
        have h2 : sumJ j ((end1 i s).filter fun e => !decide (klt x e.key)) = 0 := by
          unfold end1
          simp only [if_neg hz, List.filter_cons, List.filter_nil, decide_eq_false hf, decide_eq_false hk]
          by_cases hij : i = j <;> simp [sumJ, hij]
        rw [h2]
        simp
theorem filter_pos (l : List SpanR) (x : ByteArray) : decide (0 < ((l.filter (hasP x)).length : Int)) = inL l x := by
  rw [Bool.eq_iff_iff, decide_eq_true_iff, List.any_eq_true]
  constructor
  · intro h
    have : (l.filter (hasP x)) ≠ [] := by intro e; rw [e] at h; simp at h
    obtain ⟨s, hs⟩ := List.exists_mem_of_ne_nil _ this
    obtain ⟨h1, h2⟩ := List.mem_filter.1 hs
    exact ⟨s, h1, h2⟩
  · rintro ⟨s, hs, h⟩
    have := List.length_pos_of_mem (List.mem_filter.2 ⟨hs, h⟩)
    omega

/-- The ends of two lists, sorted. -/
structure Srt (a b : List SpanR) (E : List EndR) : Prop where
  perm : E.Perm (endsOf 0 a ++ endsOf 1 b)
  srt : ∀ i j (hi : i < E.length) (hj : j < E.length), i < j → ¬ klt E[j].key E[i].key
  oka : ∀ s ∈ a, OkS s
  okb : ∀ s ∈ b, OkS s
theorem Srt.open_ {a b : List SpanR} {E : List EndR} (h : Srt a b E) {i : Nat} (hi : i < E.length) (hn : ∀ (h1 : i + 1 < E.length), E[i + 1].key ≠ E[i].key) :
    decide (0 < sumJ 0 (E.take (i + 1))) = inL a E[i].key ∧ decide (0 < sumJ 1 (E.take (i + 1))) = inL b E[i].key := by
  have hle : ∀ j (hj : j < E.length), j ≤ i → ¬ klt E[i].key E[j].key := fun j hj hji => by
    rcases Nat.lt_or_eq_of_le hji with h1 | h1
    · exact h.srt j i hj hi h1
    · subst h1; exact klt_irrefl _
  have hgt : ∀ j (hj : j < E.length), i < j → klt E[i].key E[j].key := fun j hj hij => by
    have h1 : klt E[i].key E[i + 1].key := by
      rcases klt_tri E[i].key E[i + 1].key with h2 | h2 | h2
      · exact h2
      · exact absurd h2.symm (hn (by omega))
      · exact absurd h2 (h.srt i (i + 1) hi (by omega) (by omega))
    rcases Nat.lt_or_eq_of_le (show i + 1 ≤ j from hij) with h2 | h2
    · exact klt_not_trans h1 (h.srt (i + 1) j (by omega) hj h2)
    · subst h2; exact h1
  generalize hK : E[i].key = K at hle hgt
  have hf : E.filter (fun e => !decide (klt K e.key)) = E.take (i + 1) := by
    conv => lhs; rw [← List.take_append_drop (i + 1) E]
    rw [List.filter_append, List.filter_eq_self.2, List.filter_eq_nil_iff.2, List.append_nil]
    · intro e he
      obtain ⟨t, ht, rfl⟩ := List.getElem_of_mem he
      rw [List.getElem_drop]
      rw [decide_eq_true (hgt _ _ (by omega))]
      simp
    · intro e he
      obtain ⟨t, ht, rfl⟩ := List.getElem_of_mem he
      rw [List.getElem_take]
      rw [decide_eq_false (hle _ _ (by rw [List.length_take] at ht; omega))]
      rfl
  have hp := h.perm.filter (fun e => !decide (klt K e.key))
  rw [hf, List.filter_append] at hp
  constructor
  · rw [sumJ_perm 0 hp, sumJ_app, sumJ_ends 0 0 _ _ h.oka, sumJ_ends 1 0 _ _ h.okb, if_pos rfl, if_neg (by omega), Int.add_zero]
    exact filter_pos _ _
  · rw [sumJ_perm 1 hp, sumJ_app, sumJ_ends 0 1 _ _ h.oka, sumJ_ends 1 1 _ _ h.okb, if_pos rfl, if_neg (by omega), Int.zero_add]
    exact filter_pos _ _

/-- The sweep has gone over i ends. -/
structure SwI (f : ByteArray → Bool) (E : List EndR) (i : Nat) (out : List SpanR) (was : Bool) (ks : List ByteArray) : Prop where
  st : Mk f ks out was
  srt : ks.Pairwise klt
  sub : ∀ y ∈ ks, ∃ e ∈ E, e.key = y
  all : ∀ t (ht : t < E.length), t < i → E[t].key ∈ ks ∨ ∃ hi : i < E.length, E[t].key = E[i].key
  next : ∀ (hi : i < E.length), ∀ y ∈ ks, klt y E[i].key
  cnt : ks.length ≤ i
theorem SwI.start (f : ByteArray → Bool) (E : List EndR) : SwI f E 0 [] false [] :=
  ⟨Mk.nil f, List.Pairwise.nil, fun _ h => (by cases h), fun t _ h => absurd h (Nat.not_lt_zero _), fun _ _ h => (by cases h), Nat.le_refl _⟩
section
variable {f : ByteArray → Bool} {a b : List SpanR} {E : List EndR} {i : Nat} {out : List SpanR} {was : Bool} {ks : List ByteArray}
theorem SwI.cont (h : SwI f E i out was ks) (hi : i + 1 < E.length) (he : E[i + 1].key = E[i].key) : SwI f E (i + 1) out was ks :=
  ⟨h.st, h.srt, h.sub, fun t ht hti => by
    rcases Nat.lt_or_eq_of_le (Nat.le_of_lt_succ hti) with h1 | h1
    · rcases h.all t ht h1 with h2 | ⟨_, h2⟩
      · exact .inl h2
      · exact .inr ⟨hi, h2.trans he.symm⟩
    · subst h1
      exact .inr ⟨hi, he.symm⟩, fun _ y hy => by rw [he]; exact h.next _ y hy, Nat.le_succ_of_le h.cnt⟩
theorem SwI.step (h : SwI f E i out was ks) (hE : Srt a b E) (hi : i < E.length) (hn : ∀ (h1 : i + 1 < E.length), E[i + 1].key ≠ E[i].key) {out' : List SpanR} {was' : Bool} (hm : Mk f (ks ++ [E[i].key]) out' was') : SwI f E (i + 1) out' was' (ks ++ [E[i].key]) := by
  refine ⟨hm, List.pairwise_append.2 ⟨h.srt, by simp, fun y hy z hz => ?_⟩, fun y hy => ?_, fun t ht hti => .inl ?_, fun hi1 y hy => ?_, by have := h.cnt; simp; omega⟩
  · rw [List.mem_singleton] at hz
    subst hz
    exact h.next hi y hy
  · rcases List.mem_append.1 hy with hy | hy
    · exact h.sub y hy
    · rw [List.mem_singleton] at hy
      exact ⟨_, List.getElem_mem hi, hy.symm⟩
  · rcases Nat.lt_or_eq_of_le (Nat.le_of_lt_succ hti) with h1 | h1
    · rcases h.all t ht h1 with h2 | ⟨_, h2⟩
      · exact List.mem_append_left _ h2
      · rw [h2]; simp
    · subst h1; simp
  · have h1 := hE.srt i (i + 1) hi hi1 (by omega)
    rcases List.mem_append.1 hy with hy | hy
    · exact klt_not_trans (h.next hi y hy) h1
    · rw [List.mem_singleton] at hy
      subst hy
      rcases klt_tri E[i].key E[i + 1].key with h2 | h2 | h2
      · exact h2
      · exact absurd h2.symm (hn hi1)
      · exact absurd h2 h1
theorem SwI.made {rf : Bool → Bool → Bool} (h0 : rf false false = false) (hE : Srt a b E) (h : SwI (fun k => rf (inL a k) (inL b k)) E E.length out was ks) : Made rf a b out := by
  have mem : ∀ e ∈ E, e.key ∈ ks := fun e he => by
    obtain ⟨t, ht, rfl⟩ := List.getElem_of_mem he
    rcases h.all t ht ht with h1 | ⟨h1, _⟩
    · exact h1
    · omega
  have ea : Ends a ks := fun s hs => by
    obtain ⟨⟨e, he, h1⟩, h2⟩ := ends_in (i := 0) hs
    refine ⟨by rw [← h1]; exact mem e (hE.perm.mem_iff.2 (List.mem_append_left _ he)), h2.imp id ?_⟩
    rintro ⟨e, he, h2⟩
    rw [← h2]; exact mem e (hE.perm.mem_iff.2 (List.mem_append_left _ he))
  have eb : Ends b ks := fun s hs => by
    obtain ⟨⟨e, he, h1⟩, h2⟩ := ends_in (i := 1) hs
    refine ⟨by rw [← h1]; exact mem e (hE.perm.mem_iff.2 (List.mem_append_right _ he)), h2.imp id ?_⟩
    rintro ⟨e, he, h2⟩
    rw [← h2]; exact mem e (hE.perm.mem_iff.2 (List.mem_append_right _ he))
  have from_ : ∀ y ∈ ks, ∃ t ∈ a ++ b, y = t.from_ ∨ y = t.to_ := fun y hy => by
    obtain ⟨e, he, rfl⟩ := h.sub y hy
    rcases List.mem_append.1 (hE.perm.mem_iff.1 he) with h1 | h1
    · obtain ⟨_, _, t, ht, h2⟩ := endsOf_mem h1
      exact ⟨t, List.mem_append_left _ ht, h2⟩
    · obtain ⟨_, _, t, ht, h2⟩ := endsOf_mem h1
      exact ⟨t, List.mem_append_right _ ht, h2⟩
  refine ⟨h.st.nrm, fun k => ?_, fun s hs => ?_, ?_⟩
  · rw [h.st.sem k]
    refine gAt_eq (f := fun k => rf (inL a k) (inL b k)) h.srt (fun hk => ?_) (fun x hx hx1 hx2 => ?_)
    · simp only [in_low ea hk, in_low eb hk, h0]
    · simp only [in_max ea hx1 hx2, in_max eb hx1 hx2]
  · exact ⟨from_ _ (h.st.low s hs).1, (h.st.low s hs).2.imp id (from_ _)⟩
  · have h1 := h.st.len
    have h2 := h.cnt
    have h3 := hE.perm.length_eq
    have h4 := endsOf_len 0 a
    have h5 := endsOf_len 1 b
    rw [List.length_append] at h3
    omega
end
end Go.Proofs.Ytkjopeiohjkhoaa

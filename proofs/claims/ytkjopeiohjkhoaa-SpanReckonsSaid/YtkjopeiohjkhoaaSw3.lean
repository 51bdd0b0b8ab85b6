/- span's sweep: words. -/
import Derived.Test.YtkjopeiohjkhoaaSw1
set_option linter.unusedVariables false
set_option linter.unusedSimpArgs false
namespace Go.Proofs.Ytkjopeiohjkhoaa
open Go.RowKit

def eCells (l : List EndR) : List Value := l.flatMap EndR.enc
theorem elt_end : Elt Try.prog 49 52 3 32 := Elt.mk' Try.underlying49 (z := .agg #[.string ⟨#[]⟩, .int .i64 0, .int .i64 0]) (by kernel_rfl) rfl (by omega)
theorem end_one (l : List EndR) : ∀ u ∈ eCells l, u.oneCell' = true := by
  intro u hu
  unfold eCells at hu
  obtain ⟨r, _, hr⟩ := List.mem_flatMap.1 hu
  simp only [EndR.enc, List.mem_cons, List.not_mem_nil, or_false] at hr
  rcases hr with rfl | rfl | rfl <;> rfl
theorem eCells_snoc (l : List EndR) (e : EndR) : eCells l ++ eCells [e] = eCells (l ++ [e]) := by simp [eCells]
theorem own_elen {w : World} {b e n : Nat} {v : Value} {l : List EndR} (h : w.ownsRow b e 3 v n (eCells l)) : l.length = n := by
  have h1 := h.1
  unfold eCells at h1
  rw [flat_len EndR.enc 3 (fun _ => rfl)] at h1
  omega
/-- slices.SortFunc over ends. -/
def SortSpec : Prop := ∀ (w : World) (own : Nat) (A : Option Addr) (n c : Nat) (L : List EndR), w.ownsRow own 52 3 (.slice A n c) n (eCells L) → n ≤ 100000 →
  Calls Try.prog 37 #[.slice A n c, .func (.func 38) #[] #[]] w fun e w' => e = .returned (.tuple #[]) ∧
    ∃ E : List EndR, E.Perm L ∧ (∀ i j (hi : i < E.length) (hj : j < E.length), i < j → ¬ klt E[j].key E[i].key) ∧ w'.ownsRow own 52 3 (.slice A n c) n (eCells E) ∧ w.grownBy w' (Value.slice A n c).ownBlock
def swrong2 (a b : List SpanR) : Int := if swrong a = 0 then swrong b else swrong a
def SwPost (rf : Bool → Bool → Bool) (w : World) (a b : List SpanR) (e : Ending) (w' : World) : Prop :=
  ∃ (A : Option Addr) (n c : Nat) (l : List SpanR) (err : Int), e = .returned (.tuple #[.slice A n c, .int .i64 err]) ∧ Below w.heap.size w w' ∧ w'.ownsRow w.heap.size 35 2 (.slice A n c) n (sCells l) ∧
    ((swrong2 a b ≠ 0 ∧ err = swrong2 a b ∧ l = []) ∨ (swrong2 a b = 0 ∧ ∃ out, Made rf a b out ∧ ((out.length ≤ 4096 ∧ err = 0 ∧ l = out) ∨ (4096 < out.length ∧ err = 2 ∧ l = []))))
theorem Rd.new2 {base n k blk : Nat} {T : TypeId} {w : World} {xs : List Value} {cs : Array Value} (hb : blk = w.heap.size) (hc : cs.toList = xs) (hl : xs.length = n * k) : Rd base T (w.alloc (.cells cs T)) k (some ⟨blk, 0, none⟩) n n xs := by
  subst hb
  exact Rd.new_ hc hl
theorem box_cell {w w' : World} {cs : Array Value} {T : TypeId} {o2 : Obj} {row : Option Nat} (h : ((w.alloc (.cells cs T)).alloc o2).grownBy w' row) (hr : ∀ k, row = some k → k < w.heap.size) (j : Nat) : w'.cell? ⟨w.heap.size, j, none⟩ = cs[j]? := by
  refine (World.cell?_of_block (a := ⟨w.heap.size, j, none⟩) (h.block w.heap.size (by simp; omega) (fun e => ?_))).trans ?_
  · have := hr _ e.symm
    omega
  · refine (World.cell?_of_block (w := w.alloc (.cells cs T)) (heap_alloc_old _ o2 (by simp))).trans ?_
    exact cell_of_row _ _ j _ _ _ (heap_alloc_new w _)
/-- The ends gathered behind k lists. -/
def gath (a b : List SpanR) (k : Nat) : List EndR := if k = 0 then [] else if k = 1 then endsOf 0 a else endsOf 0 a ++ endsOf 1 b
def pick2 {α : Type} (k : Nat) (x y : α) : α := if k = 0 then x else y
theorem gath_step (a b : List SpanR) {k : Nat} (hk : k < 2) : gath a b k ++ endsOf (k : Int) (pick2 k a b) = gath a b (k + 1) := by
  rcases Nat.lt_or_ge k 1 with h | h
  · have : k = 0 := by omega
    subst this; rfl
  · have : k = 1 := by omega
    subst this; rfl
theorem open_put {w : World} {g q : Nat} {y0 y1 z : Int} {T : TypeId} (h : w.heap[g]? = some (.cells #[.int .i64 y0, .int .i64 y1] T (0, 0))) (hq : q < 2) :
    (w.setCell ⟨g, q, none⟩ (.int .i64 z)).heap[g]? = some (.cells #[.int .i64 (if q = 0 then z else y0), .int .i64 (if q = 1 then z else y1)] T (0, 0)) := by
  simp only [World.setCell, Array.getElem?_modify, h, if_true]
  rcases Nat.lt_or_ge q 1 with h1 | h1
  · have : q = 0 := by omega
    subst this; rfl
  · have : q = 1 := by omega
    subst this; rfl
theorem wrap_in {z : Int} (h : -100000 ≤ z ∧ z ≤ 100000) : wrap64 z = z ∧ IntKind.i64.wrap z = z := by
  have h1 : wrap64 z = z := by unfold wrap64; omega
  exact ⟨h1, IntWalk.i64_in _ (by omega)⟩
theorem own_set {w : World} {b e k n : Nat} {v : Value} {xs : List Value} (h : w.ownsRow b e k v n xs) {p : Addr} {U : TypeId} (hT : IsT w p.block U) (hU : U ≠ e) (u : Value) : (w.setCell p u).ownsRow b e k v n xs := by
  refine ⟨h.1, ?_⟩
  rcases h.2 with hn | ⟨g, cap, cur, rfl, hb, hgg, rest⟩
  · exact .inl hn
  · refine .inr ⟨g, cap, cur, rfl, hb, ?_, rest⟩
    obtain ⟨cs, fr, hc⟩ := hT
    rw [Below.heap_setCell w p u g (by
      rintro rfl
      rw [hgg] at hc
      injection hc with hc
      injection hc with _ hc
      exact hU hc.symm)]
    exact hgg
theorem own_le {w : World} {b b' e k n : Nat} {v : Value} {xs : List Value} (h : w.ownsRow b e k v n xs) (hb : b' ≤ b) : w.ownsRow b' e k v n xs :=
  ⟨h.1, h.2.imp id fun ⟨g, cap, cur, h1, h2, h3⟩ => ⟨g, cap, cur, h1, Nat.le_trans hb h2, h3⟩⟩
/-- An own row, one cell turned. -/
theorem own_put {w : World} {b e k n c g j : Nat} {xs : List Value} (h : w.ownsRow b e k (.slice (some ⟨g, 0, none⟩) n c) n xs) (hj : j < n * k) (u : Value) : (w.setCell ⟨g, j, none⟩ u).ownsRow b e k (.slice (some ⟨g, 0, none⟩) n c) n (xs.set j u) := by
  refine ⟨by rw [List.length_set]; exact h.1, ?_⟩
  rcases h.2 with ⟨h1, _⟩ | ⟨g', cap, cur, hv, hb, hh, h1, h2, h3, h4⟩
  · cases h1
  · injection hv with hv _ hcap
    injection hv with hv
    injection hv with hv _ _
    subst hv hcap
    refine .inr ⟨g, c, cur.setIfInBounds j u, rfl, hb, ?_, h1, h2, by simp [h3], ?_⟩
    · simp only [World.setCell, Array.getElem?_modify, hh, if_true]
      rfl
    · rw [Array.toList_setIfInBounds, ← h4, List.take_set]
theorem own_frozen {w : World} {b e k n c g : Nat} {xs : List Value} (h : w.ownsRow b e k (.slice (some ⟨g, 0, none⟩) n c) n xs) (j : Nat) : w.frozen? ⟨g, j, none⟩ = false := by
  rcases h.2 with ⟨h1, _⟩ | ⟨g', cap, cur, hv, hb, hh, _⟩
  · cases h1
  · injection hv with hv _ hcap
    injection hv with hv
    injection hv with hv _ _
    subst hv
    exact frozen_of_row _ _ j _ _ hh
theorem sCells_set (o : List SpanR) (s : SpanR) (x : ByteArray) : (sCells (o ++ [s])).set (o.length * 2 + 1) (.string x) = sCells (o ++ [⟨s.from_, x⟩]) := by
  have h1 : (o.flatMap SpanR.enc).length = o.length * 2 := flat_len SpanR.enc 2 (fun _ => rfl) o
  unfold sCells
  rw [List.flatMap_append, List.flatMap_append, List.set_append, h1, if_neg (by omega), show o.length * 2 + 1 - o.length * 2 = 1 by omega]
  rfl
theorem own_slen {w : World} {b e n : Nat} {v : Value} {l : List SpanR} (h : w.ownsRow b e 2 v n (sCells l)) : l.length = n := by
  have h1 := h.1
  unfold sCells at h1
  rw [flat_len SpanR.enc 2 (fun _ => rfl)] at h1
  omega
theorem sumJ_bound (j : Int) : ∀ l : List EndR, (∀ e ∈ l, e.by_ = 1 ∨ e.by_ = -1) → -(l.length : Int) ≤ sumJ j l ∧ sumJ j l ≤ l.length
  | [], _ => by simp [sumJ]
  | e :: l, h => by
    have ih := sumJ_bound j l (fun x hx => h x (List.mem_cons_of_mem _ hx))
    have h1 := h e List.mem_cons_self
    rw [sumJ, List.length_cons]
    split <;> rcases h1 with h1 | h1 <;> (try rw [h1]) <;> omega
theorem sumJ_succ (j : Int) (E : List EndR) {i : Nat} (hi : i < E.length) : sumJ j (E.take (i + 1)) = sumJ j (E.take i) + (if E[i].list = j then E[i].by_ else 0) := by
  rw [List.take_succ_eq_append_getElem hi, sumJ_app]
  simp [sumJ]
theorem Srt.mem {a b : List SpanR} {E : List EndR} (h : Srt a b E) {e : EndR} (he : e ∈ E) : (e.list = 0 ∨ e.list = 1) ∧ (e.by_ = 1 ∨ e.by_ = -1) := by
  rcases List.mem_append.1 (h.perm.mem_iff.1 he) with h1 | h1
  · obtain ⟨h2, h3, _⟩ := endsOf_mem h1
    exact ⟨.inl h2, h3⟩
  · obtain ⟨h2, h3, _⟩ := endsOf_mem h1
    exact ⟨.inr h2, h3⟩
theorem gath_len (a b : List SpanR) (k : Nat) : (gath a b k).length ≤ 2 * a.length + 2 * b.length := by
  have := endsOf_len 0 a
  have := endsOf_len 1 b
  unfold gath
  split
  · simp
  · split
    · omega
    · rw [List.length_append]; omega

theorem open_keep {w w' : World} {ob b e k n T : Nat} {o : Obj} {v : Value} {xs : List Value} {cs' : Array Value} (h : w.heap[ob]? = some (.cells cs' T (0, 0))) (hO : w.ownsRow b e k v n xs) (hne : T ≠ e) (hg : (w.alloc o).grownBy w' v.ownBlock) : w'.heap[ob]? = some (.cells cs' T (0, 0)) := by
  have hl : ob < w.heap.size := (Array.getElem?_eq_some_iff.1 h).1
  refine (hg.block ob (by simp; omega) (fun e2 => ?_)).trans ((heap_alloc_old _ o hl).trans h)
  obtain ⟨⟨c2, f2, h2⟩, _⟩ := own_ist hO ob e2.symm
  rw [h] at h2
  injection h2 with h2
  injection h2 with _ h2
  exact hne h2
theorem own_at {w : World} {b e k n c : Nat} {A : Option Addr} {xs : List Value} (h : w.ownsRow b e k (.slice A n c) n xs) (hn : 0 < n) : ∃ g, A = some ⟨g, 0, none⟩ := by
  rcases h.2 with ⟨_, h1⟩ | ⟨g, cap, cur, hv, _⟩
  · omega
  · injection hv with hv
    exact ⟨g, hv⟩
theorem own_cap {w : World} {b e k n c : Nat} {A : Option Addr} {xs : List Value} (h : w.ownsRow b e k (.slice A n c) n xs) : n ≤ c := by
  rcases h.2 with ⟨h0, h1⟩ | ⟨g, cap, cur, hv, _, _, h1, _⟩
  · omega
  · injection hv with _ _ hv
    subst hv
    exact h1
theorem own_cell {w : World} {b e k n c g j : Nat} {xs : List Value} {u : Value} (h : w.ownsRow b e k (.slice (some ⟨g, 0, none⟩) n c) n xs) (hj : j < n * k) (hu : xs[j]? = some u) : w.cell? ⟨g, j, none⟩ = some u := by
  have := h.cells (g := g) rfl j u hu
  rwa [add_lit', Nat.zero_add] at this
theorem sl_last (o : List SpanR) (y : ByteArray) : ((o ++ [(⟨y, ⟨#[]⟩⟩ : SpanR)]).flatMap SpanR.enc)[o.length * 2 + 1]? = some (.string ⟨#[]⟩) := by
  have h1 : (o.flatMap SpanR.enc).length = o.length * 2 := flat_len SpanR.enc 2 (fun _ => rfl) o
  rw [List.flatMap_append, List.getElem?_append_right (by omega), h1, show o.length * 2 + 1 - o.length * 2 = 1 by omega]
  rfl
end Go.Proofs.Ytkjopeiohjkhoaa

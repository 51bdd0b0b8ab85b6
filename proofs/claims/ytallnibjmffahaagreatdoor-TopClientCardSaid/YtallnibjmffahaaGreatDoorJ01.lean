/- Words on memory: a slice that reads as a list of cells, kept while tables are turned; append onto such a slice. Arguments opened: operations, lists of them. -/
import Derived.Test.YtallnibjmffahaaGreatDoorJ00
import Derived.WalkKit
import Derived.Laws.Cells
import Derived.Deep.Draws
import Derived.ArgAppend
import Derived.Deep.AppendLies
import Derived.Test.YtallnibjmffahaaGreatDoorProg
import Derived.ProofKit
import Derived.OpenShut
import Derived.Deep.Slices
import Derived.Deep.Fields
import Derived.ChangeSame
set_option linter.unusedVariables false
set_option linter.unusedSimpArgs false
namespace Go.Proofs.YtallnibjmffahaaGreatDoor
open Go.RowKit

theorem add_lit' (b o j : Nat) : (⟨b, o, none⟩ : Addr).add j = ⟨b, o + j, none⟩ := by
  unfold Addr.add; split <;> simp_all

/-- Blocks that stay while others are turned: those below base, and those of type T. -/
def Stay (base : Nat) (T : TypeId) (w : World) (b : Nat) : Prop :=
  b < w.heap.size ∧ (b < base ∨ ∃ cs fr, w.heap[b]? = some (.cells cs T fr))

theorem Stay.lt {base : Nat} {T : TypeId} {w : World} {b : Nat} (h : Stay base T w b) : b < w.heap.size := h.1
theorem Stay.keep {base : Nat} {T : TypeId} {w w' : World} {b : Nat} (h : Stay base T w b) (hs : w.heap.size ≤ w'.heap.size) (hb : w'.heap[b]? = w.heap[b]?) : Stay base T w' b :=
  ⟨Nat.lt_of_lt_of_le h.1 hs, h.2.imp id fun ⟨cs, fr, h1⟩ => ⟨cs, fr, hb.trans h1⟩⟩
theorem Stay.ne {base : Nat} {T U : TypeId} {w : World} {b g : Nat} (h : Stay base T w b) {cs : Array Value} {fr : Nat × Nat} (hh : w.heap[g]? = some (.cells cs U fr)) (hU : U ≠ T) (hge : base ≤ g) : b ≠ g := by
  rintro rfl
  rcases h.2 with h1 | ⟨cs', fr', h1⟩
  · omega
  · rw [hh] at h1
    injection h1 with h1
    injection h1 with _ h3
    exact hU h3

/-- The slice '.slice A n c' reads as the cells xs, k cells an element. -/
structure Rd (base : Nat) (T : TypeId) (w : World) (k : Nat) (A : Option Addr) (n c : Nat) (xs : List Value) : Prop where
  len : xs.length = n * k
  cap : n ≤ c
  nil : A = none → c = 0
  at_ : 0 < n → ∃ b off, A = some ⟨b, off, none⟩ ∧ Stay base T w b ∧ ∀ j u, xs[j]? = some u → w.cell? ⟨b, off + j, none⟩ = some u

section
variable {base : Nat} {T : TypeId} {w w' : World} {k n c : Nat} {A : Option Addr} {xs : List Value}

theorem Rd.none_ : Rd base T w k none 0 0 [] := ⟨by simp, Nat.le_refl _, fun _ => rfl, fun h => absurd h (by omega)⟩
theorem Rd.empty_ (A : Option Addr) (h : A = none → c = 0) : Rd base T w k A 0 c [] := ⟨by simp, Nat.zero_le _, h, fun h => absurd h (by omega)⟩
theorem Rd.keep (h : Rd base T w k A n c xs) (hs : w.heap.size ≤ w'.heap.size) (hk : ∀ b, Stay base T w b → w'.heap[b]? = w.heap[b]?) : Rd base T w' k A n c xs :=
  ⟨h.len, h.cap, h.nil, fun hn => by
    obtain ⟨b, off, e, hb, hc⟩ := h.at_ hn
    exact ⟨b, off, e, hb.keep hs (hk b hb), fun j u hu => (World.cell?_of_block (w := w) (hk b hb)).trans (hc j u hu)⟩⟩
theorem Rd.below (h : Rd base T w k A n c xs) (hb : Below w.heap.size w w') : Rd base T w' k A n c xs := h.keep hb.size fun b hs => hb.block b hs.lt
theorem Rd.grown (h : Rd base T w k A n c xs) {g : Nat} {U : TypeId} {cs : Array Value} {fr : Nat × Nat} (hg : w.grownBy w' (some g)) (hh : w.heap[g]? = some (.cells cs U fr)) (hU : U ≠ T) (hge : base ≤ g) : Rd base T w' k A n c xs :=
  h.keep hg.size fun b hs => hg.block b hs.lt (by
    intro e
    injection e with e
    exact hs.ne hh hU hge e)
theorem Rd.drewN (h : Rd base T w k A n c xs) (m : Nat) : Rd base T (w.drewN m) k A n c xs := h.keep (Nat.le_refl _) fun b _ => rfl
theorem Rd.alloc (h : Rd base T w k A n c xs) (o : Obj) : Rd base T (w.alloc o) k A n c xs := h.below ((Below.refl _ _).alloc (Nat.le_refl _) o)
theorem Rd.setCell (h : Rd base T w k A n c xs) {p : Addr} {U : TypeId} {cs : Array Value} {fr : Nat × Nat} (hh : w.heap[p.block]? = some (.cells cs U fr)) (hU : U ≠ T) (hge : base ≤ p.block) (u : Value) : Rd base T (w.setCell p u) k A n c xs :=
  h.keep (by simp [World.setCell]) fun b hs => Below.heap_setCell w p u b (hs.ne hh hU hge)
/-- What is below base, or of a type, stays in whatever keeps it. -/
theorem Rd.keepT (h : Rd base T w k A n c xs) (hs : w.heap.size ≤ w'.heap.size) (h1 : ∀ b : Nat, b < base → w'.heap[b]? = w.heap[b]?) (h2 : ∀ (b : Nat) (cs : Array Value) (fr : Nat × Nat), w.heap[b]? = some (Obj.cells cs T fr) → w'.heap[b]? = w.heap[b]?) : Rd base T w' k A n c xs :=
  h.keep hs fun b hb => hb.2.elim (h1 b) fun ⟨cs, fr, e⟩ => h2 b cs fr e
/-- A slice that was just made. -/
theorem Rd.new_ {cs : Array Value} (hc : cs.toList = xs) (hl : xs.length = n * k) : Rd base T (w.alloc (.cells cs T)) k (some ⟨w.heap.size, 0, none⟩) n n xs :=
  ⟨hl, Nat.le_refl _, fun e => by simp at e, fun _ => ⟨_, 0, rfl, ⟨by simp, .inr ⟨_, _, heap_alloc_new w _⟩⟩, fun j u hu => by
    rw [cell_of_row _ _ _ _ _ _ (heap_alloc_new w _), Nat.zero_add, ← Array.getElem?_toList, hc]
    exact hu⟩⟩

/-- Element i's cells. -/
theorem Rd.elem (h : Rd base T w k A n c xs) {i : Nat} (hi : i < n) : ∃ b off, A = some ⟨b, off, none⟩ ∧ b < w.heap.size ∧ ∀ j, j < k → w.cell? ⟨b, off + i * k + j, none⟩ = xs[i * k + j]? := by
  obtain ⟨b, off, e, hb, hc⟩ := h.at_ (by omega)
  refine ⟨b, off, e, hb.lt, fun j hj => ?_⟩
  have hl : i * k + j < xs.length := by
    rw [h.len]
    have : i * k + k ≤ n * k := by
      rw [← Nat.succ_mul]
      exact Nat.mul_le_mul_right _ hi
    omega
  rw [List.getElem?_eq_getElem hl, Nat.add_assoc]
  exact hc _ _ (List.getElem?_eq_getElem hl)

/-- A cut x[lo:hi:c']. -/
theorem Rd.cut (h : Rd base T w k A n c xs) {lo hi c' : Nat} (h1 : lo ≤ hi) (h2 : hi ≤ n) (h3 : hi ≤ c') (h4 : c' ≤ c) :
    Rd base T w k (if c' = lo then A else A.map (·.add (lo * k))) (hi - lo) (c' - lo) ((xs.drop (lo * k)).take ((hi - lo) * k)) := by
  have hlen : ((xs.drop (lo * k)).take ((hi - lo) * k)).length = (hi - lo) * k := by
    rw [List.length_take, List.length_drop, h.len, Nat.min_eq_left]
    rw [← Nat.sub_mul]
    exact Nat.mul_le_mul_right _ (by omega)
  refine ⟨hlen, by omega, fun hA => ?_, fun hn => ?_⟩
  · split at hA
    · omega
    · have : A = none := by cases A <;> simp_all
      have := h.nil this
      omega
  · obtain ⟨b, off, rfl, hb, hc⟩ := h.at_ (by omega)
    rw [if_neg (by omega)]
    refine ⟨b, off + lo * k, by simp [add_lit'], hb, fun j u hu => ?_⟩
    rw [List.getElem?_take] at hu
    split at hu
    · rw [List.getElem?_drop] at hu
      rw [Nat.add_assoc]
      exact hc _ _ hu
    · cases hu
theorem Rd.prefix_ (h : Rd base T w k A n c xs) {hi c' : Nat} (h2 : hi ≤ n) (h3 : hi ≤ c') (h4 : c' ≤ c) (hc0 : A = none → c' = 0) :
    Rd base T w k A hi c' (xs.take (hi * k)) := by
  refine ⟨by rw [List.length_take, h.len, Nat.min_eq_left (Nat.mul_le_mul_right _ h2)], h3, hc0, fun hn => ?_⟩
  obtain ⟨b, off, e, hb, hc⟩ := h.at_ (by omega)
  refine ⟨b, off, e, hb, fun j u hu => ?_⟩
  rw [List.getElem?_take] at hu
  split at hu
  · exact hc _ _ hu
  · cases hu

/-- What the call owns reads so. -/
theorem Rd.of_own {base' : Nat} {v : Value} (h : w.ownsRow base' T k v n xs) : ∃ A c, v = .slice A n c ∧ Rd base T w k A n c xs := by
  rcases h.2 with ⟨rfl, rfl⟩ | ⟨g, cap, cur, rfl, hb, hh, h1, h2, h3, h4⟩
  · exact ⟨none, 0, rfl, h.1, Nat.le_refl _, fun _ => rfl, fun h => absurd h (by omega)⟩
  · refine ⟨_, cap, rfl, h.1, h1, fun e => by simp at e, fun _ => ⟨g, 0, rfl, ⟨(Array.getElem?_eq_some_iff.1 hh).1, .inr ⟨_, _, hh⟩⟩, fun j u hu => ?_⟩⟩
    have := h.cells (g := g) rfl j u hu
    rwa [add_lit'] at this
end

/-- append where there is no room, or nothing to be added: whatever the two slices are. -/
theorem run_append_full {P : Program} {base : Nat} (w : World) (t ty e : TypeId) (i : TypeInfo) (z : Value) (size bytes : Nat) (ht : P.underlying t = some (.slice e)) (hi : P.info? e = some i) (hz : i.zero = some z)
    (hsize : i.size = size) (hby : i.bytes = bytes) (hzs : z.cells.size = size) (hsz : 0 < size)
    {A B : Option Addr} {n c m d : Nat} {xs ys : List Value} (hx : Rd base e w size A n c xs) (hy : Rd base e w size B m d ys) (hfull : c < n + m ∨ m = 0) (h1 : ∀ u ∈ ys, u.oneCell' = true)
    (h63 : n + m ≤ maxLen) (hbytes : (n + m) * bytes ≤ 140737488355328) :
    ∃ A' c' w', (Builtin.append_ #[t, t] ty #[.slice A n c, .slice B m d]).run P w = .ok (.slice A' (n + m) c') w' ∧ Rd base e w' size A' (n + m) c' (xs ++ ys) ∧ Below w.heap.size w w' ∧
      ((A' = A ∧ c' = c ∧ m = 0) ∨ (w'.ownsRow w.heap.size e size (.slice A' (n + m) c') (n + m) (xs ++ ys) ∧ 0 < n + m ∧ 0 < m)) := by
  by_cases hm : m = 0
  · subst hm
    have hn : ys = [] := List.eq_nil_of_length_eq_zero (by simpa using hy.len)
    subst hn
    refine ⟨A, c, w, ?_, by simpa using hx, Below.refl _ _, .inl ⟨rfl, rfl, rfl⟩⟩
    have hc := hx.cap
    rcases A with _ | a
    · have := hx.nil rfl
      subst this
      have : n = 0 := by omega
      subst this
      cases B <;> simp [Builtin.append_, run_underlying ht, sizeOf, typeInfo, hi, Builtin.lenOf, Builtin.firstCells, loadCells, loadCellsFrom, storeCells]
    · cases B <;> simp [Builtin.append_, run_underlying ht, sizeOf, typeInfo, hi, Builtin.lenOf, Builtin.firstCells, loadCells, loadCellsFrom, storeCells, hc]
  · have hfull : c < n + m := hfull.resolve_right hm
    obtain ⟨b, off, rfl, hb, hcells⟩ := hy.at_ (by omega)
    have hnews : ∀ j u, ys[j]? = some u → w.cell? ((⟨b, off, none⟩ : Addr).add j) = some u := fun j u hu => by rw [add_lit']; exact hcells j u hu
    have fin : ∀ v' w', w'.ownsRow w.heap.size e size v' (n + m) (xs ++ ys) → w.grownBy w' none →
        (Builtin.append_ #[t, t] ty #[.slice A n c, .slice (some ⟨b, off, none⟩) m d]).run P w = .ok v' w' →
        ∃ A' c' w', (Builtin.append_ #[t, t] ty #[.slice A n c, .slice (some ⟨b, off, none⟩) m d]).run P w = .ok (.slice A' (n + m) c') w' ∧ Rd base e w' size A' (n + m) c' (xs ++ ys) ∧ Below w.heap.size w w' ∧
          ((A' = A ∧ c' = c ∧ m = 0) ∨ (w'.ownsRow w.heap.size e size (.slice A' (n + m) c') (n + m) (xs ++ ys) ∧ 0 < n + m ∧ 0 < m)) := by
      intro v' w' hown hg hr
      obtain ⟨A', c', rfl, hrd⟩ := Rd.of_own (base := base) hown
      exact ⟨A', c', w', hr, hrd, ⟨hg.os, hg.tape, hg.output, hg.size, fun k hk => hg.block k hk (by simp)⟩, .inr ⟨hown, by omega, by omega⟩⟩
    rcases A with _ | a
    · have := hx.nil rfl
      subst this
      have hn0 : n = 0 := by have := hx.cap; omega
      subst hn0
      obtain rfl : xs = [] := List.eq_nil_of_length_eq_zero (by simpa using hx.len)
      obtain ⟨v', w', hrun, r1, r2, _⟩ := run_append_own (P := P) w w.heap.size t ty e i z size bytes ht hi hz hsize hby hzs hsz (.slice none 0 0) 0 [] (World.ownsRow_nil w _ e size) ⟨b, off, none⟩ m d ys hy.len hnews h1 h63 hbytes (Nat.le_refl _)
      exact fin v' w' r1 r2 hrun
    · have holds : ∀ j u, xs[j]? = some u → w.cell? (a.add j) = some u := by
        intro j u hu
        have hn : 0 < n := by
          rcases Nat.eq_zero_or_pos n with h0 | h0
          · subst h0
            obtain rfl : xs = [] := List.eq_nil_of_length_eq_zero (by simpa using hx.len)
            simp at hu
          · exact h0
        obtain ⟨b', off', e', hb', hc'⟩ := hx.at_ hn
        injection e' with e'
        subst e'
        rw [add_lit']
        exact hc' j u hu
      obtain ⟨v', w', hrun, r1, r2⟩ := run_append_arg_grows (P := P) w t ty e i z size bytes ht hi hz hsize hby hzs hsz a n c xs hx.len holds ⟨b, off, none⟩ m d ys hy.len hnews hfull h63 hbytes
      exact fin v' w' r1 r2 hrun

/-- append onto a row of the call's own, whatever is added. -/
theorem run_append_mine {P : Program} {base : Nat} (w : World) (t ty e : TypeId) (i : TypeInfo) (z : Value) (size bytes : Nat) (ht : P.underlying t = some (.slice e)) (hi : P.info? e = some i) (hz : i.zero = some z)
    (hsize : i.size = size) (hby : i.bytes = bytes) (hzs : z.cells.size = size) (hsz : 0 < size)
    {own n : Nat} {v : Value} {xs : List Value} (hown : w.ownsRow own e size v n xs)
    {B : Option Addr} {m d : Nat} {ys : List Value} (hy : Rd base e w size B m d ys) (h1 : ∀ u ∈ ys, u.oneCell' = true)
    (h63 : n + m ≤ maxLen) (hbytes : (n + m) * bytes ≤ 140737488355328) (hbase : own ≤ w.heap.size) :
    ∃ v' w', (Builtin.append_ #[t, t] ty #[v, .slice B m d]).run P w = .ok v' w' ∧ w'.ownsRow own e size v' (n + m) (xs ++ ys) ∧ w.grownBy w' v.ownBlock := by
  by_cases hm : m = 0
  · subst hm
    have hn : ys = [] := List.eq_nil_of_length_eq_zero (by simpa using hy.len)
    subst hn
    refine ⟨v, w, ?_, by simpa using hown, ⟨rfl, rfl, rfl, Nat.le_refl _, fun _ _ _ => rfl⟩⟩
    rcases hown.2 with ⟨rfl, rfl⟩ | ⟨g, cap, cur, rfl, hb, hh, h1, h2, h3, h4⟩
    · cases B <;> simp [Builtin.append_, run_underlying ht, sizeOf, typeInfo, hi, Builtin.lenOf, Builtin.firstCells, loadCells, loadCellsFrom, storeCells]
    · cases B <;> simp [Builtin.append_, run_underlying ht, sizeOf, typeInfo, hi, Builtin.lenOf, Builtin.firstCells, loadCells, loadCellsFrom, storeCells, h1]
  · obtain ⟨b, off, rfl, hb, hcells⟩ := hy.at_ (by omega)
    have hnews : ∀ j u, ys[j]? = some u → w.cell? ((⟨b, off, none⟩ : Addr).add j) = some u := fun j u hu => by rw [add_lit']; exact hcells j u hu
    obtain ⟨v', w', hrun, r1, r2, _⟩ := run_append_own (P := P) w own t ty e i z size bytes ht hi hz hsize hby hzs hsz v n xs hown ⟨b, off, none⟩ m d ys hy.len hnews h1 h63 hbytes hbase
    exact ⟨v', w', hrun, r1, r2⟩

/-- What append asks of a slice type t: elements of type e, size cells and bytes each. -/
structure Elt (P : Program) (t e : TypeId) (size bytes : Nat) : Prop where
  ht : P.underlying t = some (.slice e)
  info : ∃ i z, P.info? e = some i ∧ i.zero = some z ∧ i.size = size ∧ i.bytes = bytes ∧ z.cells.size = size
  pos : 0 < size
theorem Elt.mk' {P : Program} {t e size bytes : Nat} {z : Value} (ht : P.underlying t = some (.slice e)) (hi : (P.info? e).map (fun i => (i.zero, i.size, i.bytes)) = some (some z, size, bytes)) (hz : z.cells.size = size) (hp : 0 < size) : Elt P t e size bytes := by
  refine ⟨ht, ?_, hp⟩
  cases h : P.info? e with
  | none => rw [h] at hi; cases hi
  | some i =>
    rw [h] at hi
    simp only [Option.map_some, Option.some.injEq, Prod.mk.injEq] at hi
    exact ⟨i, z, rfl, hi.1, hi.2.1, hi.2.2, hz⟩

/-- The facts behind an append that makes a new row, or adds nothing. -/
structure Full (base e size : Nat) (A : Option Addr) (n c m : Nat) (xs ys : List Value) (w : World) (A' : Option Addr) (c' : Nat) (w' : World) : Prop where
  rd : Rd base e w' size A' (n + m) c' (xs ++ ys)
  below : Below w.heap.size w w'
  how : (A' = A ∧ c' = c ∧ m = 0) ∨ (w'.ownsRow w.heap.size e size (.slice A' (n + m) c') (n + m) (xs ++ ys) ∧ 0 < n + m ∧ 0 < m)

section
variable {P : Program} {ops : Array Oper} {o : Oper} {a : Act} {w : World} {K : Act → World → Prop} {Q : Exit → Act → World → Prop}
theorem wp_append_full {base : Nat} (hg : o.guard = none) (s x : Operand) (t : TypeId) (hop : o.op = .call { callee := .builtin .append, args := #[s, x], argTypes := #[t, t] })
    {e size bytes : Nat} (E : Elt P t e size bytes)
    {A B : Option Addr} {n c m d : Nat} {xs ys : List Value} (hs : a.eval s = .slice A n c) (hx : a.eval x = .slice B m d) (rx : Rd base e w size A n c xs) (ry : Rd base e w size B m d ys)
    (hfull : c < n + m ∨ m = 0) (h1 : ∀ u ∈ ys, u.oneCell' = true) (h63 : n + m ≤ maxLen) (hbytes : (n + m) * bytes ≤ 140737488355328)
    (hK : ∀ A' c' w', Full base e size A n c m xs ys w A' c' w' → K (a.put o.dst (.slice A' (n + m) c')) w') : o.wp P a w K Q := by
  obtain ⟨i, z, hi, hz, hsz, hby, hzs⟩ := E.info
  obtain ⟨A', c', w', hr, h2, h3, h4⟩ := run_append_full (P := P) w t o.type e i z size bytes E.ht hi hz hsz hby hzs E.pos rx ry hfull h1 h63 hbytes
  unfold Oper.wp execOp
  simp only [hop, resolve, invoke, builtin, Sem.run_bind, Sem.run_pure, Result.andThen_ok, List.map_toArray, List.map_cons, List.map_nil, hs, hx, hr]
  exact hK _ _ _ ⟨h2, h3, h4⟩
theorem wpList_append_full {rest : List Oper} {base : Nat} (hg : o.guard = none) (s x : Operand) (t : TypeId) (hop : o.op = .call { callee := .builtin .append, args := #[s, x], argTypes := #[t, t] })
    {e size bytes : Nat} (E : Elt P t e size bytes)
    {A B : Option Addr} {n c m d : Nat} {xs ys : List Value} (hs : a.eval s = .slice A n c) (hx : a.eval x = .slice B m d) (rx : Rd base e w size A n c xs) (ry : Rd base e w size B m d ys)
    (hfull : c < n + m ∨ m = 0) (h1 : ∀ u ∈ ys, u.oneCell' = true) (h63 : n + m ≤ maxLen) (hbytes : (n + m) * bytes ≤ 140737488355328)
    (hK : ∀ A' c' w', Full base e size A n c m xs ys w A' c' w' → wpList P ops Q rest (a.put o.dst (.slice A' (n + m) c')) w') : wpList P ops Q (o :: rest) a w :=
  wpList_plain hg fun _ hk => wp_append_full hg s x t hop E hs hx rx ry hfull h1 h63 hbytes fun A' c' w' hf => hk _ _ (hK A' c' w' hf)
theorem step_append_full {F : Prop} {base : Nat} (hg : o.guard = none) (s x : Operand) (t : TypeId) (hop : o.op = .call { callee := .builtin .append, args := #[s, x], argTypes := #[t, t] })
    {e size bytes : Nat} (E : Elt P t e size bytes)
    {A B : Option Addr} {n c m d : Nat} {xs ys : List Value} (hs : a.eval s = .slice A n c) (hx : a.eval x = .slice B m d) (rx : Rd base e w size A n c xs) (ry : Rd base e w size B m d ys)
    (hfull : c < n + m ∨ m = 0) (h1 : ∀ u ∈ ys, u.oneCell' = true) (h63 : n + m ≤ maxLen) (hbytes : (n + m) * bytes ≤ 140737488355328)
    (hK : ∀ A' c' w', Full base e size A n c m xs ys w A' c' w' → K (a.put o.dst (.slice A' (n + m) c')) w') : if Region.wanted o (yielded ops a.tmps) = true then Oper.wp P o a w K Q else F := by
  rw [if_pos (by simp [Region.wanted, hg])]
  exact wp_append_full hg s x t hop E hs hx rx ry hfull h1 h63 hbytes hK

theorem wp_append_mine {base own : Nat} (s x : Operand) (t : TypeId) (hop : o.op = .call { callee := .builtin .append, args := #[s, x], argTypes := #[t, t] })
    {e size bytes : Nat} (E : Elt P t e size bytes)
    {v : Value} {B : Option Addr} {n m d : Nat} {xs ys : List Value} (hs : a.eval s = v) (hx : a.eval x = .slice B m d) (rx : w.ownsRow own e size v n xs) (ry : Rd base e w size B m d ys)
    (h1 : ∀ u ∈ ys, u.oneCell' = true) (h63 : n + m ≤ maxLen) (hbytes : (n + m) * bytes ≤ 140737488355328) (hb : own ≤ w.heap.size)
    (hK : ∀ v' w', w'.ownsRow own e size v' (n + m) (xs ++ ys) → w.grownBy w' v.ownBlock → K (a.put o.dst v') w') : o.wp P a w K Q := by
  obtain ⟨i, z, hi, hz, hsz, hby, hzs⟩ := E.info
  obtain ⟨v', w', hr, h2, h3⟩ := run_append_mine (P := P) (base := base) w t o.type e i z size bytes E.ht hi hz hsz hby hzs E.pos rx ry h1 h63 hbytes hb
  unfold Oper.wp execOp
  simp only [hop, resolve, invoke, builtin, Sem.run_bind, Sem.run_pure, Result.andThen_ok, List.map_toArray, List.map_cons, List.map_nil, hs, hx, hr]
  exact hK _ _ h2 h3
theorem wpList_append_mine {rest : List Oper} {base own : Nat} (hg : o.guard = none) (s x : Operand) (t : TypeId) (hop : o.op = .call { callee := .builtin .append, args := #[s, x], argTypes := #[t, t] })
    {e size bytes : Nat} (E : Elt P t e size bytes)
    {v : Value} {B : Option Addr} {n m d : Nat} {xs ys : List Value} (hs : a.eval s = v) (hx : a.eval x = .slice B m d) (rx : w.ownsRow own e size v n xs) (ry : Rd base e w size B m d ys)
    (h1 : ∀ u ∈ ys, u.oneCell' = true) (h63 : n + m ≤ maxLen) (hbytes : (n + m) * bytes ≤ 140737488355328) (hb : own ≤ w.heap.size)
    (hK : ∀ v' w', w'.ownsRow own e size v' (n + m) (xs ++ ys) → w.grownBy w' v.ownBlock → wpList P ops Q rest (a.put o.dst v') w') : wpList P ops Q (o :: rest) a w :=
  wpList_plain hg fun _ hk => wp_append_mine s x t hop E hs hx rx ry h1 h63 hbytes hb fun v' w' h2 h3 => hk _ _ (hK v' w' h2 h3)
theorem step_append_mine {F : Prop} {base own : Nat} (hg : o.guard = none) (s x : Operand) (t : TypeId) (hop : o.op = .call { callee := .builtin .append, args := #[s, x], argTypes := #[t, t] })
    {e size bytes : Nat} (E : Elt P t e size bytes)
    {v : Value} {B : Option Addr} {n m d : Nat} {xs ys : List Value} (hs : a.eval s = v) (hx : a.eval x = .slice B m d) (rx : w.ownsRow own e size v n xs) (ry : Rd base e w size B m d ys)
    (h1 : ∀ u ∈ ys, u.oneCell' = true) (h63 : n + m ≤ maxLen) (hbytes : (n + m) * bytes ≤ 140737488355328) (hb : own ≤ w.heap.size)
    (hK : ∀ v' w', w'.ownsRow own e size v' (n + m) (xs ++ ys) → w.grownBy w' v.ownBlock → K (a.put o.dst v') w') : if Region.wanted o (yielded ops a.tmps) = true then Oper.wp P o a w K Q else F := by
  rw [if_pos (by simp [Region.wanted, hg])]
  exact wp_append_mine s x t hop E hs hx rx ry h1 h63 hbytes hb hK
end

section
variable {α : Type} (enc : α → List Value) (k : Nat) (hk : ∀ x, (enc x).length = k)
include hk
theorem flat_len (l : List α) : (l.flatMap enc).length = l.length * k := by
  induction l with
  | nil => simp
  | cons x l ih => rw [List.flatMap_cons, List.length_append, ih, hk, List.length_cons, Nat.succ_mul, Nat.add_comm]
theorem flat_get : ∀ (l : List α) (i j : Nat) (hi : i < l.length), j < k → (l.flatMap enc)[i * k + j]? = (enc l[i])[j]? := by
  intro l
  induction l with
  | nil => intro i j hi; simp at hi
  | cons x l ih =>
    intro i j hi hj
    rw [List.flatMap_cons]
    cases i with
    | zero => rw [List.getElem?_append_left (by rw [hk]; omega)]; simp
    | succ i =>
      rw [Nat.succ_mul, List.getElem?_append_right (by rw [hk]; omega), hk, show i * k + k + j - k = i * k + j by omega]
      exact ih i j (by simpa using hi) hj
theorem flat_drop : ∀ (l : List α) (i : Nat), (l.flatMap enc).drop (i * k) = (l.drop i).flatMap enc := by
  intro l
  induction l with
  | nil => intro i; simp
  | cons x l ih =>
    intro i
    cases i with
    | zero => simp
    | succ i =>
      rw [List.flatMap_cons, List.drop_succ_cons, ← ih, Nat.succ_mul, Nat.add_comm, ← List.drop_drop, ← hk x, List.drop_left]
theorem flat_take : ∀ (l : List α) (i : Nat), (l.flatMap enc).take (i * k) = (l.take i).flatMap enc := by
  intro l
  induction l with
  | nil => intro i; simp
  | cons x l ih =>
    intro i
    cases i with
    | zero => simp
    | succ i =>
      rw [List.flatMap_cons, List.take_succ_cons, List.flatMap_cons, ← ih, Nat.succ_mul, List.take_append, hk, List.take_of_length_le (by rw [hk]; omega), Nat.add_sub_cancel]
end
theorem Rd.count {base : Nat} {T : TypeId} {w : World} {α : Type} {enc : α → List Value} {k n c : Nat} {A : Option Addr} {l : List α} (h : Rd base T w k A n c (l.flatMap enc)) (hk : ∀ x, (enc x).length = k) (h0 : 0 < k) : l.length = n := by
  have h1 := h.len
  rw [flat_len enc k hk] at h1
  exact Nat.eq_of_mul_eq_mul_right h0 h1

/-- A load of the cells of an element. -/
theorem run_load_list (P : Program) (W : World) (a : Addr) (cs : List Value) (k : Nat) (hk : cs.length = k) (h : ∀ j v, cs[j]? = some v → W.cell? (a.add j) = some v) :
    Sem.run P (loadCellsFrom a 0 k #[]) W = .ok cs.toArray W := by
  have := run_loadCells_list (P := P) (w := W) a cs h
  rw [hk] at this
  simpa [loadCells] using this

end Go.Proofs.YtallnibjmffahaaGreatDoor

set_option linter.unusedVariables false
set_option linter.unusedSimpArgs false
namespace Go.Proofs.YtallnibjmffahaaGreatDoor
open Go.RowKit Go.ChangeShapes Go.WideShapes Go.ChangeAt Go.Deep

theorem list_choice {α : Type} (P : Nat → α → Prop) : ∀ (n : Nat), (∀ i, i < n → ∃ a, P i a) → ∃ l : List α, l.length = n ∧ ∀ i (hi : i < l.length), P i l[i]
  | 0, _ => ⟨[], rfl, fun i hi => absurd hi (by simp)⟩
  | n + 1, h => by
    obtain ⟨l, hl, hp⟩ := list_choice P n (fun i hi => h i (by omega))
    obtain ⟨a, ha⟩ := h n (by omega)
    refine ⟨l ++ [a], by simp [hl], fun i hi => ?_⟩
    by_cases e : i < l.length
    · rw [List.getElem_append_left e]; exact hp i e
    · have : i = n := by simp at hi; omega
      subst this
      rw [List.getElem_append_right (by omega)]
      simpa [hl] using ha

/-- A slice that came in, by its elements' cells. -/
theorem Rd.mk_enc {α : Type} {enc : α → List Value} {k T : Nat} (hk : ∀ x, (enc x).length = k) (h0 : 0 < k) {w : World} {a : Addr} {n c : Nat} {l : List α} (hl : l.length = n) (hc : n ≤ c) (h : ∀ i (hi : i < l.length), ∀ j v, (enc l[i])[j]? = some v → w.cell? (a.add (i * k + j)) = some v) :
    Rd w.heap.size T w k (some a) n c (l.flatMap enc) := by
  refine ⟨by rw [flat_len enc k hk, hl], hc, fun e => by simp at e, fun hn => ?_⟩
  have hsp : a.spot = none ∧ a.block < w.heap.size := by
    have h1 : (enc l[0])[0]? = some ((enc l[0])[0]'(by rw [hk]; exact h0)) := List.getElem?_eq_getElem _
    have h2 := h 0 (by omega) 0 _ h1
    have h3 : a.add (0 * k + 0) = a := by simp [Addr.add]
    rw [h3] at h2
    refine ⟨?_, World.block_lt_of_cell? w a h2⟩
    unfold World.cell? at h2
    split at h2
    · split at h2
      · cases h2
      · rename_i hs
        simpa using hs
    · cases h2
  obtain ⟨b, off, sp⟩ := a
  obtain ⟨hs, hb⟩ := hsp
  simp only at hs hb
  subst hs
  refine ⟨b, off, rfl, ⟨hb, .inl hb⟩, fun j u hu => ?_⟩
  have hj : j < l.length * k := by
    have := (List.getElem?_eq_some_iff.1 hu).1
    rwa [flat_len enc k hk] at this
  have hi : j / k < l.length := Nat.div_lt_of_lt_mul (by rw [Nat.mul_comm]; exact hj)
  have hjk : j % k < k := Nat.mod_lt _ h0
  have hdm : j / k * k + j % k = j := by rw [Nat.mul_comm]; exact Nat.div_add_mod j k
  have := h (j / k) hi (j % k) u (by rw [← flat_get enc k hk l _ _ hi hjk, hdm]; exact hu)
  rw [hdm, add_lit'] at this
  exact this

section
variable {H : Type} {enc : TypeId × Value → H} {P : Program} {w : World} {base : Nat} {spare : Nat → Bool} {held : Bool}
theorem open_slice_fields {t e : TypeId} {fs : Array Field} {fuel : Nat} {cs : List Value} {x : DataW H × List MemPlace} (ht : P.underlying t = some (.slice e)) (he : P.underlying e = some (.struct fs))
    (hone : oneCellFields P fs = true) (hC : P.cellsOf e = fs.size) (h : DataW.trod enc P w base spare held fuel t cs = some x) :
    cs = [.slice none 0 0] ∨
    ∃ (a : Addr) (len cap : Nat), cs = [.slice (some a) len cap] ∧ len ≤ cap ∧
      ∀ i, i < len → ∀ (j : Nat) (f : Field), fs[j]? = some f → ∃ (v : Value) (n : Nat) (y : DataW H × List MemPlace), w.cell? (a.add (i * fs.size + j)) = some v ∧ DataW.trod enc P w base spare held n f.type [v] = some y := by
  rcases open_slice ht h with h0 | ⟨a, len, cap, m, n, D, Pl, hcs, hb, hl, hm, hmm, hx, hi⟩
  · exact .inl h0.1
  · refine .inr ⟨a, len, cap, hcs, hl, fun i him j f hj => ?_⟩
    have him' : i < m := by rw [hmm]; split <;> omega
    obtain ⟨cs', hc, ht'⟩ := hi i him'
    rw [hC] at hc
    obtain ⟨ys, n', hn', hy, hlen, hyl, hf⟩ := DataW.trod_struct he ht'
    obtain ⟨_, hcl, hat⟩ := World.cells?_some hc
    obtain ⟨ho, hk⟩ := hone_of hone j f hj
    have hjl : j < fs.size := (Array.getElem?_eq_some_iff.1 hj).1
    have hcell := hat j hjl
    have hv : cs'[j]? = some (cs'[j]'(by omega)) := List.getElem?_eq_getElem (by omega)
    have h1 := hf j f hj
    rw [ho, hk] at h1
    have hone' : (cs'.drop j).take 1 = [cs'[j]'(by omega)] := by
      rw [List.drop_eq_getElem_cons (by omega)]
      rfl
    rw [hone'] at h1
    have hys : ys[j]? = some (ys[j]'(by omega)) := List.getElem?_eq_getElem (by omega)
    refine ⟨_, _, _, ?_, h1.trans hys⟩
    rw [← Go.Deep.add_add, hcell, hv]
end

section
variable {H : Type} {enc : TypeId × Value → H} {w : World} {base : Nat} {spare : Nat → Bool} {held : Bool}
def FitsR (x : OpR) : Prop := x.key.size ≤ 9223372036854775807 ∧ x.val.size ≤ 9223372036854775807
theorem open_ops {fuel : Nat} {cs : List Value} {x : DataW H × List MemPlace} (h : DataW.trod enc Tryz.prog w base spare held fuel 39 cs = some x) :
    ∃ A n c, ∃ ops : List OpR, cs = [.slice A n c] ∧ Rd w.heap.size 79 w 6 A n c (ops.flatMap OpR.enc) ∧ ∀ x ∈ ops, FitsR x := by
  rcases open_slice_fields Tryz.underlying39 Tryz.underlying79 (by kernel_rfl) (by kernel_rfl) h with rfl | ⟨a, len, cap, rfl, hl, hf⟩
  · exact ⟨none, 0, 0, [], rfl, Rd.none_, fun x hx => by cases hx⟩
  · have hall : ∀ i, i < len → ∃ x : OpR, FitsR x ∧ ∀ j v, x.enc[j]? = some v → w.cell? (a.add (i * 6 + j)) = some v := by
      intro i hi
      obtain ⟨v0, n0, y0, k0, t0⟩ := hf i hi 0 _ rfl
      obtain ⟨v1, n1, y1, k1, t1⟩ := hf i hi 1 _ rfl
      obtain ⟨v2, n2, y2, k2, t2⟩ := hf i hi 2 _ rfl
      obtain ⟨v3, n3, y3, k3, t3⟩ := hf i hi 3 _ rfl
      obtain ⟨v4, n4, y4, k4, t4⟩ := hf i hi 4 _ rfl
      obtain ⟨v5, n5, y5, k5, t5⟩ := hf i hi 5 _ rfl
      obtain ⟨z0, e0, _, _⟩ := DataW.trod_int (k := .i64) (by kernel_rfl) t0
      obtain ⟨z1, e1, _, f1⟩ := DataW.trod_string (by kernel_rfl) t1
      obtain ⟨z2, e2, _, f2⟩ := DataW.trod_string (by kernel_rfl) t2
      obtain ⟨z3, e3, _, _⟩ := DataW.trod_int (k := .i64) (by kernel_rfl) t3
      obtain ⟨z4, e4, _, _⟩ := DataW.trod_int (k := .i64) (by kernel_rfl) t4
      obtain ⟨z5, e5, _, _⟩ := DataW.trod_int (k := .i64) (by kernel_rfl) t5
      injection e0 with e0 _; injection e1 with e1 _; injection e2 with e2 _; injection e3 with e3 _; injection e4 with e4 _; injection e5 with e5 _
      subst e0 e1 e2 e3 e4 e5
      refine ⟨⟨z0, z1, z2, z3, z4, z5⟩, ⟨by unfold maxLen at f1; omega, by unfold maxLen at f2; omega⟩, fun j v hj => ?_⟩
      match j, hj with
      | 0, hj => injection hj with hj; subst hj; exact k0
      | 1, hj => injection hj with hj; subst hj; exact k1
      | 2, hj => injection hj with hj; subst hj; exact k2
      | 3, hj => injection hj with hj; subst hj; exact k3
      | 4, hj => injection hj with hj; subst hj; exact k4
      | 5, hj => injection hj with hj; subst hj; exact k5
      | j + 6, hj => simp [OpR.enc] at hj
    obtain ⟨ops, hlen, hp⟩ := list_choice (fun i (x : OpR) => FitsR x ∧ ∀ j v, x.enc[j]? = some v → w.cell? (a.add (i * 6 + j)) = some v) len hall
    refine ⟨some a, len, cap, ops, rfl, Rd.mk_enc (k := 6) (fun _ => rfl) (by omega) hlen hl (fun i hi => (hp i hi).2), fun x hx => ?_⟩
    obtain ⟨i, hi, rfl⟩ := List.getElem_of_mem hx
    exact (hp i hi).1
end
end Go.Proofs.YtallnibjmffahaaGreatDoor

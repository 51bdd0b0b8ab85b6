/- The book's map: one key; a slice in the midst of a row; dedup.New. dedup.copied. dedup.New, Last, Ask. -/
import Derived.Test.YtallnibjmffahaaGreatDoorJ15
import Derived.Test.YtallnibjmffahaaGreatDoorJ12
import Derived.Laws.IdiomCopy
import Derived.Carry
import Derived.ChangeMaps5
import Derived.Test.YtallnibjmffahaaGreatDoorJ23
set_option linter.unusedVariables false
set_option linter.unusedSimpArgs false
namespace Go.Proofs.YtallnibjmffahaaGreatDoor
open Go.RowKit

/-- The book's map: nothing, or the replies of client 7. -/
def BMap (w : World) (mb : Nat) (A : Option Addr) (n c : Nat) : Prop :=
  ∃ es clock, w.heap[mb]? = some (.map es clock) ∧ ((es = #[] ∧ A = none ∧ n = 0 ∧ c = 0) ∨ ∃ e : MapEntry, es = #[e] ∧ e.key = .int .i64 7 ∧ e.val = .slice A n c)
theorem BMap.lt {w : World} {mb n c : Nat} {A : Option Addr} (h : BMap w mb A n c) : mb < w.heap.size := by
  obtain ⟨es, clock, h, _⟩ := h
  exact (Array.getElem?_eq_some_iff.1 h).1
theorem BMap.keep {w w' : World} {mb n c : Nat} {A : Option Addr} (h : BMap w mb A n c) (e : w'.heap[mb]? = w.heap[mb]?) : BMap w' mb A n c := by
  obtain ⟨es, clock, h, r⟩ := h
  exact ⟨es, clock, e.trans h, r⟩
theorem zeroReps (w : World) : (zeroValue 133).run Tryz.prog w = .ok (.slice none 0 0) w := by kernel_rfl
theorem gb_setBlock {w : World} {b : Nat} {es : Array MapEntry} {clock : Nat} (hb : w.heap[b]? = some (.map es clock)) (o : Obj) : w.grownBy (ChangeMaps.setBlock w b o) (some b) :=
  ⟨rfl, rfl, rfl, by simp [ChangeMaps.setBlock], fun k hk hne => ChangeMaps.heap_setBlock_other hb o (fun e => hne (by rw [e]))⟩
theorem seven_key : MapKept.IsKey (.int .i64) (.int .i64 7) := by first | trivial | exact rfl | simp [MapKept.IsKey]
set_option maxRecDepth 100000 in
theorem BMap.look {w : World} {mb n c : Nat} {A : Option Addr} (h : BMap w mb A n c) :
    (Instr.lookup 66 (.map (some mb)) (.int .i64 7) false).run Tryz.prog w = .ok (.slice A n c) w := by
  obtain ⟨es, clock, h, ⟨rfl, rfl, rfl, rfl⟩ | ⟨e, rfl, hk, hv⟩⟩ := h
  · have hz := zeroReps w
    simp [Instr.lookup, run_underlying Tryz.underlying66, MapKept.run_getObj_map h, MapKept.run_checkKey Tryz.underlying3 seven_key, MapKept.run_findKey (a := none) Tryz.underlying3 (show Instr.findNow (.int .i64) (.int .i64 7) [] 0 = some none from rfl), Result.andThen, hz]
  · have hf : Instr.findNow (.int .i64) (.int .i64 7) [e] 0 = some (some (0, e.val)) := by simp [Instr.findNow, Instr.sameNow, hk]
    simp [Instr.lookup, run_underlying Tryz.underlying66, MapKept.run_getObj_map h, MapKept.run_checkKey Tryz.underlying3 seven_key, MapKept.run_findKey Tryz.underlying3 hf, Result.andThen, hv]
set_option maxRecDepth 100000 in
theorem BMap.put {w : World} {mb n c : Nat} {A : Option Addr} (h : BMap w mb A n c) (A' : Option Addr) (n' c' : Nat) :
    ∃ w', (Instr.mapUpdate 66 (.map (some mb)) (.int .i64 7) (.slice A' n' c')).run Tryz.prog w = .ok () w' ∧ BMap w' mb A' n' c' ∧ w.grownBy w' (some mb) := by
  obtain ⟨es, clock, h, ⟨rfl, rfl, rfl, rfl⟩ | ⟨e, rfl, hk, hv⟩⟩ := h
  · refine ⟨ChangeMaps.setBlock w mb (.map #[⟨.int .i64 7, .slice A' n' c', clock⟩] (clock + 1)), ?_, ⟨_, _, ChangeMaps.heap_setBlock_same h _, .inr ⟨_, rfl, rfl, rfl⟩⟩, gb_setBlock h _⟩
    simp [Instr.mapUpdate, run_underlying Tryz.underlying66, MapKept.run_getObj_map h, MapKept.run_checkKey Tryz.underlying3 seven_key, MapKept.run_findKey (a := none) Tryz.underlying3 (show Instr.findNow (.int .i64) (.int .i64 7) [] 0 = some none from rfl), MapKept.run_setObj_map _ h, Result.andThen, ChangeMaps.setBlock]
  · have hf : Instr.findNow (.int .i64) (.int .i64 7) [e] 0 = some (some (0, e.val)) := by simp [Instr.findNow, Instr.sameNow, hk]
    refine ⟨ChangeMaps.setBlock w mb (.map #[{ e with key := .int .i64 7, val := .slice A' n' c' }] clock), ?_, ⟨_, _, ChangeMaps.heap_setBlock_same h _, .inr ⟨_, rfl, rfl, rfl⟩⟩, gb_setBlock h _⟩
    simp [Instr.mapUpdate, run_underlying Tryz.underlying66, MapKept.run_getObj_map h, MapKept.run_checkKey Tryz.underlying3 seven_key, MapKept.run_findKey Tryz.underlying3 hf, hk, MapKept.run_keyThatStays seven_key, MapKept.run_setObj_map _ h, Result.andThen, ChangeMaps.setBlock]

/-- A slice in the midst of a row that the call has made. -/
structure Mid (base : Nat) (T : TypeId) (w : World) (k : Nat) (A : Option Addr) (n c : Nat) (xs : List Value) : Prop where
  rd : Rd base T w k A n c xs
  row : A = none ∨ ∃ g off cur, A = some ⟨g, off, none⟩ ∧ base ≤ g ∧ w.heap[g]? = some (.cells cur T (0, 0)) ∧ off + c * k ≤ cur.size
theorem Mid.none_ (base : Nat) (T : TypeId) (w : World) (k : Nat) : Mid base T w k none 0 0 [] := ⟨Rd.none_, .inl rfl⟩
theorem Mid.keep {base T k n c : Nat} {w w' : World} {A : Option Addr} {xs : List Value} (h : Mid base T w k A n c xs) (hs : w.heap.size ≤ w'.heap.size) (hk : ∀ b, Stay base T w b → w'.heap[b]? = w.heap[b]?) : Mid base T w' k A n c xs :=
  ⟨h.rd.keep hs hk, h.row.imp id fun ⟨g, off, cur, e, hb, hg, hz⟩ => ⟨g, off, cur, e, hb, (hk g ⟨(Array.getElem?_eq_some_iff.1 hg).1, .inr ⟨_, _, hg⟩⟩).trans hg, hz⟩⟩
theorem Mid.below {base T k n c : Nat} {w w' : World} {A : Option Addr} {xs : List Value} (h : Mid base T w k A n c xs) (hb : Below w.heap.size w w') : Mid base T w' k A n c xs := h.keep hb.size fun b hs => hb.block b hs.lt
theorem setCells_shape {T : TypeId} {fr : Nat × Nat} {g : Nat} : ∀ (vs : List Value) (o : Nat) (w : World) (cur : Array Value), w.heap[g]? = some (.cells cur T fr) → ∃ cur', (w.setCells g o vs).heap[g]? = some (.cells cur' T fr) ∧ cur'.size = cur.size
  | [], _, w, cur, h => ⟨cur, h, rfl⟩
  | v :: r, o, w, cur, h => by
    have h1 : (w.setCell ⟨g, o, none⟩ v).heap[g]? = some (.cells (cur.setIfInBounds o v) T fr) := by
      simp only [World.setCell, Array.getElem?_modify, h, if_true, Option.map_some]
      rfl
    obtain ⟨cur', h2, h3⟩ := setCells_shape r (o + 1) _ _ h1
    exact ⟨cur', h2, by simpa using h3⟩
theorem gb_setCells {g : Nat} : ∀ (vs : List Value) (o : Nat) (w : World), w.grownBy (w.setCells g o vs) (some g)
  | [], _, w => ⟨rfl, rfl, rfl, Nat.le_refl _, fun _ _ _ => rfl⟩
  | v :: r, o, w => gb_trans (gb_cell' w g o v) (gb_setCells r (o + 1) _)
theorem Mid.append {P : Program} {base : Nat} {w : World} (t ty e : TypeId) {size bytes : Nat} (E : Elt P t e size bytes) {A B : Option Addr} {n c d : Nat} {xs ys : List Value} (h : Mid base e w size A n c xs) (hy : Rd base e w size B 1 d ys)
    (h1 : ∀ u ∈ ys, u.oneCell' = true) (hn : n ≤ 1000) (hby : (n + 1) * bytes ≤ 140737488355328) (hbs : base ≤ w.heap.size) :
    ∃ A' c' w', (Builtin.append_ #[t, t] ty #[.slice A n c, .slice B 1 d]).run P w = .ok (.slice A' (n + 1) c') w' ∧ Mid base e w' size A' (n + 1) c' (xs ++ ys) ∧ w.grownBy w' (A.map Addr.block) := by
  obtain ⟨i, z, hi, hz, hsz, hbb, hzs⟩ := E.info
  have hyl : ys.length = size := by have := hy.len; omega
  by_cases hroom : n + 1 ≤ c
  · obtain ⟨B', offB, rfl, hBs, hcB⟩ := hy.at_ (by omega)
    rcases h.row with rfl | ⟨g, off, cur, rfl, hge, hg, hfit⟩
    · have := h.rd.nil rfl
      omega
    · have hmul : n * size + size ≤ c * size := by rw [← Nat.succ_mul]; exact Nat.mul_le_mul_right _ hroom
      have hin : ∀ j, j < ys.length → off + n * size + j < cur.size := fun j hj => by omega
      have hcell : ∀ j, j < ys.length → (w.cell? ⟨g, off + n * size + j, none⟩).isSome = true := fun j hj => by
        rw [cell_of_row _ _ _ _ _ _ hg]
        simp [hin j hj]
      have hrun := run_append_room_cells (P := P) w t ty e i E.ht hi g off n c ⟨B', offB, none⟩ 1 d ys (by rw [hsz]; omega) (fun j u hu => by rw [add_lit']; exact hcB j u hu) h1 hroom (by rw [hsz]; exact hcell) (fun j hj => by simp [World.frozen?, hg])
      rw [hsz] at hrun
      obtain ⟨cur', hg', hsc⟩ := setCells_shape ys (off + n * size) w cur hg
      refine ⟨_, _, _, hrun, ⟨⟨?_, hroom, fun e => by simp at e, fun _ => ⟨g, off, rfl, ⟨(Array.getElem?_eq_some_iff.1 hg').1, .inr ⟨_, _, hg'⟩⟩, fun j u hu => ?_⟩⟩, .inr ⟨g, off, cur', rfl, hge, hg', by omega⟩⟩, gb_setCells _ _ _⟩
      · rw [List.length_append, h.rd.len, hyl, Nat.succ_mul]
      · by_cases hj : j < xs.length
        · rw [List.getElem?_append_left hj] at hu
          rw [World.cell?_setCells_out g ys _ w _ (fun _ _ => .inl (by have := h.rd.len; show off + j < off + n * size; omega))]
          have hn0 : 0 < n := by
            rcases Nat.eq_zero_or_pos n with h0 | h0
            · have := h.rd.len
              rw [h0, Nat.zero_mul] at this
              omega
            · exact h0
          obtain ⟨b', off', e', _, hc'⟩ := h.rd.at_ hn0
          injection e' with e'
          injection e' with e1 e2 _
          subst e1 e2
          exact hc' j u hu
        · rw [List.getElem?_append_right (by omega)] at hu
          have hl := h.rd.len
          have hjl : j - xs.length < ys.length := (List.getElem?_eq_some_iff.1 hu).1
          have := World.cell?_setCells_in g ys (off + n * size) w hcell (j - xs.length) hjl
          rw [show off + n * size + (j - xs.length) = off + j by omega] at this
          rw [this, ← hu, List.getElem?_eq_getElem hjl]
  · obtain ⟨A', c', w', hr, h2, h3, h4⟩ := run_append_full (P := P) w t ty e i z size bytes E.ht hi hz hsz hbb hzs E.pos h.rd hy (.inl (by omega)) h1 (by simp only [maxLen]; omega) hby
    refine ⟨A', c', w', hr, ⟨h2, ?_⟩, gb_below h3 _⟩
    rcases h4 with ⟨_, _, h0⟩ | ⟨ho, _, _⟩
    · omega
    · rcases ho.2 with ⟨e, h0⟩ | ⟨g, cap, cur, e, hb, hg, _, _, hcs, _⟩
      · omega
      · injection e with e1 e2 e3
        subst e1 e3
        exact .inr ⟨g, 0, cur, rfl, Nat.le_trans hbs hb, hg, by omega⟩
theorem Mid.cut {base T k n c : Nat} {w : World} {A : Option Addr} {xs : List Value} (h : Mid base T w k A n c xs) {lo : Nat} (hlo : lo ≤ n) :
    Mid base T w k (if c = lo then A else A.map (·.add (lo * k))) (n - lo) (c - lo) (xs.drop (lo * k)) := by
  have hr := h.rd.cut (lo := lo) (hi := n) (c' := c) hlo (Nat.le_refl _) h.rd.cap (Nat.le_refl _)
  rw [List.take_of_length_le (by rw [List.length_drop, h.rd.len, ← Nat.sub_mul]; exact Nat.le_refl _)] at hr
  refine ⟨hr, ?_⟩
  rcases h.row with rfl | ⟨g, off, cur, rfl, hge, hg, hfit⟩
  · left; split <;> rfl
  · right
    have hcap := h.rd.cap
    by_cases e : c = lo
    · rw [if_pos e]
      exact ⟨g, off, cur, rfl, hge, hg, by subst e; rw [Nat.sub_self, Nat.zero_mul]; omega⟩
    · rw [if_neg e]
      refine ⟨g, off + lo * k, cur, by simp [add_lit'], hge, hg, ?_⟩
      have : lo * k + (c - lo) * k = c * k := by rw [← Nat.add_mul]; congr 1; omega
      omega
end Go.Proofs.YtallnibjmffahaaGreatDoor

set_option linter.unusedVariables false
set_option linter.unusedSimpArgs false
namespace Go.Proofs.YtallnibjmffahaaGreatDoor
open Go.RowKit

theorem own_put {w : World} {b e k n c g j : Nat} {xs : List Value} (h : w.ownsRow b e k (.slice (some ⟨g, 0, none⟩) n c) n xs) (hj : j < n * k) (u : Value) : (w.setCell ⟨g, j, none⟩ u).ownsRow b e k (.slice (some ⟨g, 0, none⟩) n c) n (xs.set j u) := by
  refine ⟨by rw [List.length_set]; exact h.1, ?_⟩
  rcases h.2 with ⟨h1, _⟩ | ⟨g', cap, cur, hv, hb, hh, h1, h2, h3, h4⟩
  · cases h1
  · injection hv with hv _ hcap
    injection hv with hv
    injection hv with hv _ _
    subst hv hcap
    refine .inr ⟨g, c, cur.setIfInBounds j u, rfl, hb, ?_, h1, h2, by simp [h3], ?_⟩
    · simp only [World.setCell, Array.getElem?_modify, hh, if_true]
      rfl
    · rw [Array.toList_setIfInBounds, ← h4, List.take_set]
theorem own_frozenR {w : World} {b e k n c g : Nat} {xs : List Value} (h : w.ownsRow b e k (.slice (some ⟨g, 0, none⟩) n c) n xs) (j : Nat) : w.frozen? ⟨g, j, none⟩ = false := by
  rcases h.2 with ⟨h1, _⟩ | ⟨g', cap, cur, hv, hb, hh, _⟩
  · cases h1
  · injection hv with hv _ _
    injection hv with hv
    injection hv with hv _ _
    subst hv
    simp [World.frozen?, hh]
theorem own_cellR {w : World} {b e k n c g j : Nat} {xs : List Value} {u : Value} (h : w.ownsRow b e k (.slice (some ⟨g, 0, none⟩) n c) n xs) (hu : xs[j]? = some u) : w.cell? ⟨g, j, none⟩ = some u := by
  have := h.cells (g := g) rfl j u hu
  rwa [add_lit', Nat.zero_add] at this
theorem own_isT {w : World} {b e k n c g : Nat} {xs : List Value} (h : w.ownsRow b e k (.slice (some ⟨g, 0, none⟩) n c) n xs) : IsT w g e ∧ b ≤ g := own_istM h g rfl
theorem rw_set : ∀ (qs : List ResW) (k : Nat) (hk : k < qs.length) (A : Option Addr) (c : Nat), (rwCells qs).set (k * 4 + 3) (.slice A 0 c) = rwCells (qs.set k ⟨(qs[k]).r, A, c⟩)
  | q :: qs, 0, _, A, c => rfl
  | q :: qs, k + 1, hk, A, c => by
    have ih := rw_set qs k (by simpa using hk) A c
    show (([.int .i64 q.r.code, .int .i64 q.r.stamp, .string q.r.val, .slice q.A 0 q.c] : List Value) ++ rwCells qs).set ((k + 1) * 4 + 3) (.slice A 0 c) = q.enc ++ rwCells (qs.set k ⟨(qs[k]'(by simpa using hk)).r, A, c⟩)
    rw [← ih, show (k + 1) * 4 + 3 = (k * 4 + 3) + 4 by omega]
    rfl
/-- How results without rows may lie. -/
def NilOk (q : ResW) : Prop := q.A = none → q.c = 0
def RsAt (base : Nat) (w : World) (A : Option Addr) (n c : Nat) (rs : List ResS) : Prop := ∃ qs : List ResW, Rd base 81 w 4 A n c (rwCells qs) ∧ qs.map ResW.r = rs ∧ ∀ q ∈ qs, NilOk q
theorem RsAt.keepR {base base' n c : Nat} {w w' : World} {A : Option Addr} {rs : List ResS} (h : RsAt base w A n c rs) (hk : ∀ qs : List ResW, Rd base 81 w 4 A n c (rwCells qs) → Rd base' 81 w' 4 A n c (rwCells qs)) : RsAt base' w' A n c rs := by
  obtain ⟨qs, h1, h2, h3⟩ := h
  exact ⟨qs, hk qs h1, h2, h3⟩
theorem RsAt.below {base n c : Nat} {w w' : World} {A : Option Addr} {rs : List ResS} (h : RsAt base w A n c rs) (hb : Below w.heap.size w w') : RsAt base w' A n c rs := h.keepR fun _ k => k.below hb
theorem RsAt.len {base n c : Nat} {w : World} {A : Option Addr} {rs : List ResS} (h : RsAt base w A n c rs) : rs.length = n := by
  obtain ⟨qs, h1, rfl, _⟩ := h
  rw [List.length_map]
  exact h1.count (enc := ResW.enc) (fun _ => rfl) (by omega)
/-- What copied answers. -/
def CopiedPost (base : Nat) (w : World) (cl sq at_ code : Int) (rs : List ResS) (e : Ending) (w' : World) : Prop :=
  ∃ A n c, e = .returned (.agg #[.int .i64 cl, .int .i64 sq, .slice A n c, .int .i64 at_, .int .i64 code]) ∧ RsAt base w' A n c rs ∧ Below w.heap.size w w'
structure CoS (base : Nat) (w wr : World) (cl sq at_ code : Int) (A : Option Addr) (n c : Nat) (rs : List ResS) : Prop where
  below : Below w.heap.size w wr
  r : wr.heap[w.heap.size]? = some (.cells #[.int .i64 cl, .int .i64 sq, .slice A n c, .int .i64 at_, .int .i64 code] 51 (0, 0))
  z : wr.heap[w.heap.size + 1]? = some (.cells #[.int .i64 0, .int .i64 0, .slice none 0 0, .int .i64 0, .int .i64 0] 51 (0, 0))
  own : ∃ qs : List ResW, wr.ownsRow w.heap.size 81 4 (.slice A n c) n (rwCells qs) ∧ qs.map ResW.r = rs ∧ ∀ q ∈ qs, NilOk q
theorem CoS.below_ {base n c : Nat} {w wr w' : World} {cl sq at_ code : Int} {A : Option Addr} {rs : List ResS} (h : CoS base w wr cl sq at_ code A n c rs) (hb : Below wr.heap.size wr w') : CoS base w w' cl sq at_ code A n c rs := by
  obtain ⟨qs, h1, h2, h3⟩ := h.own
  exact ⟨h.below.trans (hb.mono h.below.size), (hb.block _ (Array.getElem?_eq_some_iff.1 h.r).1).trans h.r, (hb.block _ (Array.getElem?_eq_some_iff.1 h.z).1).trans h.z, qs, h1.kept (gb_below hb none) (by cases (Value.slice A n c).ownBlock <;> simp), h2, h3⟩
theorem CoS.put {base n c lb k : Nat} {w wr w' : World} {cl sq at_ code : Int} {rs : List ResS} (h : CoS base w wr cl sq at_ code (some ⟨lb, 0, none⟩) n c rs) (hb : Below wr.heap.size wr w') (hk : k < n) (hl1 : lb ≠ w.heap.size) (hl2 : lb ≠ w.heap.size + 1) (A' : Option Addr) (c' : Nat) (hn : A' = none → c' = 0) :
    CoS base w (w'.setCell ⟨lb, k * 4 + 3, none⟩ (.slice A' 0 c')) cl sq at_ code (some ⟨lb, 0, none⟩) n c rs := by
  have h' := h.below_ hb
  obtain ⟨qs, h1, h2, h3⟩ := h'.own
  have hql : qs.length = n := by
    have := h1.1
    unfold rwCells at this
    rw [flat_len ResW.enc 4 (fun _ => rfl)] at this
    omega
  refine ⟨h'.below.setCell (own_isT h1).2 _, (Below.heap_setCell w' ⟨lb, k * 4 + 3, none⟩ _ _ (fun e => hl1 e.symm)).trans h'.r, (Below.heap_setCell w' ⟨lb, k * 4 + 3, none⟩ _ _ (fun e => hl2 e.symm)).trans h'.z, qs.set k ⟨(qs[k]).r, A', c'⟩, ?_, ?_, ?_⟩
  · rw [← rw_set qs k (by omega) A' c']
    exact own_put h1 (by omega) _
  · rw [← h2]
    apply List.ext_getElem?
    intro i
    rw [List.getElem?_map, List.getElem?_map, List.getElem?_set]
    by_cases e : k = i
    · subst e
      rw [if_pos rfl, if_pos (by omega), List.getElem?_eq_getElem (by omega)]
      rfl
    · rw [if_neg e]
  · intro q hq
    rcases List.mem_or_eq_of_mem_set hq with hq | rfl
    · exact h3 q hq
    · exact hn

set_option maxHeartbeats 4000000 in
set_option maxRecDepth 100000 in
theorem copied_calls {base : Nat} {w : World} (cl sq at_ code : Int) {A : Option Addr} {n c : Nat} {rs : List ResS} (h : RsAt base w A n c rs) (hbig : n ≤ 1000) (hbs : base ≤ w.heap.size) :
    Calls Tryz.prog 54 #[.agg #[.int .i64 cl, .int .i64 sq, .slice A n c, .int .i64 at_, .int .i64 code]] w (CopiedPost base w cl sq at_ code rs) := by
  have hal := ((Below.refl w.heap.size w).alloc (Nat.le_refl _) (.cells #[.int .i64 cl, .int .i64 sq, .slice A n c, .int .i64 at_, .int .i64 code] 51)).alloc (by simp) (.cells #[.int .i64 0, .int .i64 0, .slice none 0 0, .int .i64 0, .int .i64 0] 51)
  have B0 := Asd.mk hal
  have HR := Asd.mk (h.below hal)
  have HB := Asd.mk hbs
  have N0 : ((w.alloc (.cells #[.int .i64 cl, .int .i64 sq, .slice A n c, .int .i64 at_, .int .i64 code] 51)).alloc (.cells #[.int .i64 0, .int .i64 0, .slice none 0 0, .int .i64 0, .int .i64 0] 51)).heap[w.heap.size]? = some (.cells #[.int .i64 cl, .int .i64 sq, .slice A n c, .int .i64 at_, .int .i64 code] 51 (0, 0)) :=
    (heap_alloc_old _ _ (by simp)).trans (heap_alloc_new w _)
  have N1 : ((w.alloc (.cells #[.int .i64 cl, .int .i64 sq, .slice A n c, .int .i64 at_, .int .i64 code] 51)).alloc (.cells #[.int .i64 0, .int .i64 0, .slice none 0 0, .int .i64 0, .int .i64 0] 51)).heap[w.heap.size + 1]? = some (.cells #[.int .i64 0, .int .i64 0, .slice none 0 0, .int .i64 0, .int .i64 0] 51 (0, 0)) := by
    have := heap_alloc_new (w.alloc (.cells #[.int .i64 cl, .int .i64 sq, .slice A n c, .int .i64 at_, .int .i64 code] 51)) (.cells #[.int .i64 0, .int .i64 0, .slice none 0 0, .int .i64 0, .int .i64 0] 51)
    simpa using this
  have D0 := Asd.mk N0
  have D1 := Asd.mk N1
  have hbg := hbig
  clear h hal hbs N0 N1
  go_enter Tryz.func54, Tryz.ntmps54
  go_upto_region 1 with fail
  obtain ⟨w1, hw1⟩ : ∃ W, W = (w.alloc (.cells #[.int .i64 cl, .int .i64 sq, .slice A n c, .int .i64 at_, .int .i64 code] 51)).alloc (.cells #[.int .i64 0, .int .i64 0, .slice none 0 0, .int .i64 0, .int .i64 0] 51) := ⟨_, rfl⟩
  rw [← hw1] at B0 HR D0 D1 ⊢
  clear hw1
  obtain ⟨qs, hqr, hqs, hqn⟩ := HR.out
  have c2 : w1.cell? ⟨w.heap.size, 2, none⟩ = some (.slice A n c) := (cell_of_row _ _ 2 _ _ _ D0.out).trans rfl
  have f2 : w1.frozen? ⟨w.heap.size, 2, none⟩ = false := by simp [World.frozen?, D0.out]
  have hl1 : w.heap.size < w1.heap.size := (Array.getElem?_eq_some_iff.1 D0.out).1
  have CL := Asd.mk (Clone_res w1 A n c (rwCells qs) hqr (rw_one qs) (by omega))
  have HQ := Asd.mk (And.intro hqs hqn)
  clear hqr hqs hqn HR
  go_wp2_with fail
  refine CL.out.mono ?_
  rintro e w2 ⟨A2, c2', rfl, _, hO, hb2⟩
  have hz2 : w.heap.size < w2.heap.size := Nat.lt_of_lt_of_le hl1 hb2.size
  have D2 := (hb2.block _ hl1).trans D0.out
  have E2 := (hb2.block _ (Array.getElem?_eq_some_iff.1 D1.out).1).trans D1.out
  have g2 : w2.cell? ⟨w.heap.size, 2, none⟩ = some (.slice A n c) := (cell_of_row _ _ 2 _ _ _ D2).trans rfl
  have gf2 : w2.frozen? ⟨w.heap.size, 2, none⟩ = false := by simp [World.frozen?, D2]
  have hlt : w.heap.size + 1 < w1.heap.size := (Array.getElem?_eq_some_iff.1 D1.out).1
  have CS : Asd (CoS base w (w2.setCell ⟨w.heap.size, 2, none⟩ (.slice A2 n c2')) cl sq at_ code A2 n c2' rs) := ⟨by
    refine ⟨(B0.out.trans (hb2.mono B0.out.size)).setCell (Nat.le_refl _) _, ?_, (Below.heap_setCell w2 ⟨w.heap.size, 2, none⟩ _ _ (by show w.heap.size + 1 ≠ w.heap.size; omega)).trans E2, qs, own_le (hO.kept (gb_cell' _ _ _ _) (.inr fun e => ?_)) (by omega), HQ.out.1, HQ.out.2⟩
    · simp only [World.setCell, Array.getElem?_modify, D2, if_true, Option.map_some]
      rfl
    · have := own_geM hO e
      omega⟩
  clear hO hb2 D2 E2 CL D0 D1 HQ c2 f2 B0
  go_wp2_with fail
  generalize w2.setCell ⟨w.heap.size, 2, none⟩ (.slice A2 n c2') = w3 at CS ⊢
  go_loopw [12] (fun s12 wr => ∃ k : Nat, s12 = .int .i64 k ∧ k ≤ n ∧ Asd (CoS base w wr cl sq at_ code A2 n c2' rs)) (fun s12 _ => n - (intOf s12).toNat)
  case atStart => exact ⟨0, rfl, Nat.zero_le _, CS⟩
  case round =>
    obtain ⟨k, rfl, hk, CR⟩ := hrel
    clear CS
    by_cases hlt : k < n
    · obtain ⟨qs, ho, hqr, hqn⟩ := CR.out.own
      have hql : qs.length = n := by
        have := ho.1
        unfold rwCells at this
        rw [flat_len ResW.enc 4 (fun _ => rfl)] at this
        omega
      obtain ⟨lb, lcap, hv, hlb, hlbl⟩ := ho.form (by omega)
      injection hv with hv1 _ hv2
      subst hv1 hv2
      have hne : lb ≠ w.heap.size ∧ lb ≠ w.heap.size + 1 := by
        obtain ⟨⟨cs, fr, hi⟩, _⟩ := own_isT ho
        constructor
        · intro e
          rw [e, CR.out.r] at hi
          injection hi with hi
          injection hi with _ hi
          exact absurd hi (by decide)
        · intro e
          rw [e, CR.out.z] at hi
          injection hi with hi
          injection hi with _ hi
          exact absurd hi (by decide)
      obtain ⟨hne1, hne2⟩ := hne
      have hne3 : lb ≠ wr.heap.size := by omega
      have hcp := (ho.2.resolve_left (fun e => by simp at e))
      have hcell : ∀ j u, (qs[k]).enc[j]? = some u → wr.cell? ⟨lb, k * 4 + j, none⟩ = some u := fun j u hu => by
        refine own_cellR ho ?_
        unfold rwCells
        have hj : j < 4 := (List.getElem?_eq_some_iff.1 hu).1
        rw [flat_get ResW.enc 4 (fun _ => rfl) qs k j (by omega) hj]
        exact hu
      have hqk := hqn _ (List.getElem_mem (by omega : k < qs.length))
      generalize qs[k] = q at hcell hqk
      have e0 : wr.cell? ⟨lb, k * 4, none⟩ = some (.int .i64 q.r.code) := hcell 0 _ rfl
      have e1 : wr.cell? ⟨lb, k * 4 + 1, none⟩ = some (.int .i64 q.r.stamp) := hcell 1 _ rfl
      have e2 : wr.cell? ⟨lb, k * 4 + 2, none⟩ = some (.string q.r.val) := hcell 2 _ rfl
      have e3 : wr.cell? ⟨lb, k * 4 + 3, none⟩ = some (.slice q.A 0 q.c) := hcell 3 _ rfl
      have ef := own_frozenR ho (k * 4 + 3)
      have r2 : wr.cell? ⟨w.heap.size, 2, none⟩ = some (.slice (some ⟨lb, 0, none⟩) n c2') := (cell_of_row _ _ 2 _ _ _ CR.out.r).trans rfl
      have hrl : w.heap.size < wr.heap.size := (Array.getElem?_eq_some_iff.1 CR.out.r).1
      have hcap : k < c2' := by
        rcases ho.2 with ⟨e, _⟩ | ⟨g, cap, cur, e, _, _, hc1, _⟩
        · simp at e
        · injection e with _ _ e3
          omega
      have CW := Asd.mk (fun W => Clone_row (base := base) W q.A 0 q.c [] (Rd.empty_ q.A hqk) (by simp) (by omega))
      have PUT := Asd.mk (fun W A' c' (hb : Below wr.heap.size wr W) hn => CR.out.put hb hlt hne1 hne2 A' c' hn)
      clear ho hqr hqn hcp hcell hql hqk
      go_wp2_with fail
      have al := (Below.refl wr.heap.size wr).alloc (Nat.le_refl _) (.cells #[.int .i64 q.r.code, .int .i64 q.r.stamp, .string q.r.val, .slice q.A 0 q.c] 81)
      have AL := Asd.mk al
      have s2 := (al.cell (p := ⟨w.heap.size, 2, none⟩) hrl).trans r2
      have s3 : (wr.alloc (.cells #[.int .i64 q.r.code, .int .i64 q.r.stamp, .string q.r.val, .slice q.A 0 q.c] 81)).cell? ⟨wr.heap.size, 3, none⟩ = some (.slice q.A 0 q.c) := (cell_of_row _ _ 3 _ _ _ (heap_alloc_new wr _)).trans rfl
      have t3 := (al.cell (p := ⟨lb, k * 4 + 3, none⟩) hlbl).trans e3
      have tf := (al.frozen (p := ⟨lb, k * 4 + 3, none⟩) hlbl).trans ef
      have hl5 : lb < (wr.alloc (.cells #[.int .i64 q.r.code, .int .i64 q.r.stamp, .string q.r.val, .slice q.A 0 q.c] 81)).heap.size := Nat.lt_of_lt_of_le hlbl al.size
      have hm5 : wr.heap.size < (wr.alloc (.cells #[.int .i64 q.r.code, .int .i64 q.r.stamp, .string q.r.val, .slice q.A 0 q.c] 81)).heap.size := by simp
      have hr5 := Nat.lt_of_lt_of_le hrl al.size
      clear al e0 e1 e2 e3 ef r2
      generalize wr.alloc (.cells #[.int .i64 q.r.code, .int .i64 q.r.stamp, .string q.r.val, .slice q.A 0 q.c] 81) = w5 at AL s2 s3 t3 tf hl5 hm5 hr5 ⊢
      have KK := Asd.mk (fun W (h1 : Below w5.heap.size w5 W) => And.intro ((h1.cell (p := ⟨w.heap.size, 2, none⟩) hr5).trans s2) (And.intro ((h1.cell (p := ⟨wr.heap.size, 3, none⟩) hm5).trans s3) (And.intro ((h1.cell (p := ⟨lb, k * 4 + 3, none⟩) hl5).trans t3) ((h1.frozen (p := ⟨lb, k * 4 + 3, none⟩) hl5).trans tf))))
      have BL := Asd.mk (fun W W2 (h1 : Below w5.heap.size w5 W) (h2 : Below W.heap.size W W2) => h1.trans (h2.mono h1.size))
      go_region_held3 (fun w' => w'.cell? ⟨w.heap.size, 2, none⟩ = some (.slice (some ⟨lb, 0, none⟩) n c2') ∧ w'.cell? ⟨wr.heap.size, 3, none⟩ = some (.slice q.A 0 q.c)) (go_keep) ((go_at_call 73; refine (CW.out _).mono ?_; rintro e w6 ⟨A6, c6, rfl, hrd, ho6, hb6⟩; clear ho6; have BB := Asd.mk (BL.out _ _ (by first | exact (Below.refl _ _).drew | exact Below.refl _ _) hb6); have NL := Asd.mk hrd.nil; obtain ⟨d0, d1, d2, d3⟩ := KK.out _ BB.out; clear hrd hb6))
      have P7 := Asd.mk (PUT.out _ A6 c6 (AL.out.trans (BB.out.mono AL.out.size)) NL.out)
      clear d0 d1 d2 d3 KK BL CW PUT
      go_wp2_with fail
      go_roundw
      case measure => simp [intOf]; omega
      case rel => exact ⟨k + 1, by go_num, by omega, P7⟩
    · obtain rfl : k = n := by omega
      have r0 : wr.cell? ⟨w.heap.size, 0, none⟩ = some (.int .i64 cl) := (cell_of_row _ _ 0 _ _ _ CR.out.r).trans rfl
      have r1 : wr.cell? ⟨w.heap.size, 1, none⟩ = some (.int .i64 sq) := (cell_of_row _ _ 1 _ _ _ CR.out.r).trans rfl
      have r2 : wr.cell? ⟨w.heap.size, 2, none⟩ = some (.slice A2 k c2') := (cell_of_row _ _ 2 _ _ _ CR.out.r).trans rfl
      have r3 : wr.cell? ⟨w.heap.size, 3, none⟩ = some (.int .i64 at_) := (cell_of_row _ _ 3 _ _ _ CR.out.r).trans rfl
      have r4 : wr.cell? ⟨w.heap.size, 4, none⟩ = some (.int .i64 code) := (cell_of_row _ _ 4 _ _ _ CR.out.r).trans rfl
      have z0 : wr.cell? ⟨w.heap.size + 1, 0, none⟩ = some (.int .i64 0) := (cell_of_row _ _ 0 _ _ _ CR.out.z).trans rfl
      have z1 : wr.cell? ⟨w.heap.size + 1, 1, none⟩ = some (.int .i64 0) := (cell_of_row _ _ 1 _ _ _ CR.out.z).trans rfl
      have z2 : wr.cell? ⟨w.heap.size + 1, 2, none⟩ = some (.slice none 0 0) := (cell_of_row _ _ 2 _ _ _ CR.out.z).trans rfl
      have z3 : wr.cell? ⟨w.heap.size + 1, 3, none⟩ = some (.int .i64 0) := (cell_of_row _ _ 3 _ _ _ CR.out.z).trans rfl
      have z4 : wr.cell? ⟨w.heap.size + 1, 4, none⟩ = some (.int .i64 0) := (cell_of_row _ _ 4 _ _ _ CR.out.z).trans rfl
      have zf : ∀ i, wr.frozen? ⟨w.heap.size + 1, i, none⟩ = false := fun i => by simp [World.frozen?, CR.out.z]
      have zl : w.heap.size + 1 < wr.heap.size := (Array.getElem?_eq_some_iff.1 CR.out.z).1
      have hrl : w.heap.size < wr.heap.size := by omega
      go_wp2_with fail
      refine bodyPost_ret (v := .agg #[.int .i64 cl, .int .i64 sq, .slice A2 k c2', .int .i64 at_, .int .i64 code]) (by simp [results, Tryz.results54, go_sem, z0, z1, z2, z3, z4, zf]) rfl ?_
      obtain ⟨qs, ho, hqr, hqn⟩ := CR.out.own
      obtain ⟨A9, c9, e9, hrd⟩ := Rd.of_own (base := base) ho
      injection e9 with e1 _ e2
      subst e1 e2
      refine ⟨A2, k, c2', rfl, ⟨qs, hrd.grown (gb_at (gb_at (gb_at (gb_at (gb_at (gb_refl wr (some (w.heap.size + 1))) 0 _) 1 _) 2 _) 3 _) 4 _) CR.out.z (by decide) (by have := HB.out; omega), hqr, hqn⟩, ?_⟩
      exact ((((CR.out.below.setCell (by simp) _).setCell (by simp) _).setCell (by simp) _).setCell (by simp) _).setCell (by simp) _
end Go.Proofs.YtallnibjmffahaaGreatDoor

set_option linter.unusedVariables false
set_option linter.unusedSimpArgs false
namespace Go.Proofs.YtallnibjmffahaaGreatDoor
open Go.RowKit

/-- A reply that is noted, as it lies and as it reads. -/
structure RepR where
  sq : Int
  A : Option Addr
  n : Nat
  c : Nat
  at_ : Int
  code : Int
  rs : List ResS
instance : Inhabited RepR := ⟨⟨0, none, 0, 0, 0, 0, []⟩⟩
def RepR.enc (r : RepR) : List Value := [.int .i64 7, .int .i64 r.sq, .slice r.A r.n r.c, .int .i64 r.at_, .int .i64 r.code]
def repCells (l : List RepR) : List Value := l.flatMap RepR.enc
theorem rep_one (l : List RepR) : ∀ u ∈ repCells l, u.oneCell' = true := by
  intro u hu
  unfold repCells at hu
  obtain ⟨r, _, hr⟩ := List.mem_flatMap.1 hu
  simp only [RepR.enc, List.mem_cons, List.not_mem_nil, or_false] at hr
  rcases hr with rfl | rfl | rfl | rfl | rfl <;> rfl
structure BookAt (base : Nat) (w : World) (bb mb depth : Nat) (A : Option Addr) (n c : Nat) (reps : List RepR) : Prop where
  blk : w.heap[bb]? = some (.cells #[.int .i64 depth, .map (some mb)] 68 (0, 0))
  map : BMap w mb A n c
  mid : Mid base 51 w 5 A n c (repCells reps)
  ins : ∀ r ∈ reps, RsAt base w r.A r.n r.c r.rs ∧ r.n ≤ 1000
theorem BookAt.below {base bb mb depth n c : Nat} {w w' : World} {A : Option Addr} {reps : List RepR} (h : BookAt base w bb mb depth A n c reps) (hb : Below w.heap.size w w') : BookAt base w' bb mb depth A n c reps :=
  ⟨(hb.block _ (Array.getElem?_eq_some_iff.1 h.blk).1).trans h.blk, h.map.keep (hb.block _ h.map.lt), h.mid.below hb, fun r hr => ⟨(h.ins r hr).1.below hb, (h.ins r hr).2⟩⟩
theorem BookAt.len {base bb mb depth n c : Nat} {w : World} {A : Option Addr} {reps : List RepR} (h : BookAt base w bb mb depth A n c reps) : reps.length = n := h.mid.rd.count (enc := RepR.enc) (fun _ => rfl) (by omega)
theorem BookAt.cells {base bb mb depth n c : Nat} {w : World} {A : Option Addr} {reps : List RepR} (h : BookAt base w bb mb depth A n c reps) : w.cell? ⟨bb, 0, none⟩ = some (.int .i64 depth) ∧ w.cell? ⟨bb, 1, none⟩ = some (.map (some mb)) ∧ bb < w.heap.size :=
  ⟨(cell_of_row _ _ 0 _ _ _ h.blk).trans rfl, (cell_of_row _ _ 1 _ _ _ h.blk).trans rfl, (Array.getElem?_eq_some_iff.1 h.blk).1⟩
def lastP (reps : List RepR) : Int := match reps.getLast? with
  | some r => r.sq
  | none => 0

set_option maxHeartbeats 4000000 in
set_option maxRecDepth 100000 in
theorem DNew_calls (base : Nat) (w : World) (hbs : base ≤ w.heap.size) (depth : Nat) (h0 : 1 ≤ depth) (h1 : depth ≤ 64) :
    Calls Tryz.prog 4 #[.int .i64 depth] w fun e w' => ∃ bb mb, e = .returned (.tuple #[.pointer (some ⟨bb, 0, none⟩), .int .i64 0]) ∧ BookAt base w' bb mb depth none 0 0 [] ∧ w.heap.size ≤ bb ∧ w.heap.size ≤ mb ∧ Below w.heap.size w w' := by
  have hmm := @run_makeMap Tryz.prog
  go_enter Tryz.func4, Tryz.ntmps4
  go_wp2_with fail
  go_ret2
  refine ⟨w.heap.size + 1, w.heap.size, rfl, ⟨?_, ⟨#[], 0, ?_, .inl ⟨rfl, rfl, rfl, rfl⟩⟩, Mid.none_ _ _ _ _, fun r hr => by simp at hr⟩, by omega, Nat.le_refl _, ((Below.refl _ _).alloc (Nat.le_refl _) _).alloc (by simp) _⟩
  · have h := heap_alloc_new (w.alloc (.map #[] 0)) (.cells #[.int .i64 depth, .map (some w.heap.size)] 68)
    simpa using h
  · exact (heap_alloc_old _ _ (by simp)).trans (heap_alloc_new w _)

set_option maxHeartbeats 4000000 in
set_option maxRecDepth 100000 in
theorem Last_calls {base bb mb depth n c : Nat} {w : World} {A : Option Addr} {reps : List RepR} (h : BookAt base w bb mb depth A n c reps) (hn : n ≤ 1000) :
    Calls Tryz.prog 55 #[.pointer (some ⟨bb, 0, none⟩), .int .i64 7] w fun e w' => e = .returned (.int .i64 (lastP reps)) ∧ w' = w := by
  obtain ⟨b0, b1, bl⟩ := h.cells
  have LK := h.map.look
  have hl := h.len
  by_cases h0 : n = 0
  · have hr : reps = [] := List.eq_nil_of_length_eq_zero (by omega)
    subst hr
    subst h0
    clear h hl
    go_enter Tryz.func55, Tryz.ntmps55
    go_wp2_with fail
    go_ret
    exact ⟨rfl, rfl⟩
  · obtain ⟨b, off, rfl, hbl, hil, hcs⟩ := h.mid.rd.at_enc (enc := RepR.enc) (i := n - 1) (fun _ => rfl) (by omega) (by omega)
    have HL : Asd (lastP reps = reps[n - 1].sq) := ⟨by
      unfold lastP
      rw [List.getLast?_eq_getElem?, hl, List.getElem?_eq_getElem hil]⟩
    have hcap := h.mid.rd.cap
    have c1 := hcs 1 _ rfl
    generalize reps[n - 1].sq = v at c1 HL
    clear h hl hcs hil
    obtain ⟨m, rfl⟩ : ∃ m, n = m + 1 := ⟨n - 1, by omega⟩
    rw [Nat.add_sub_cancel] at c1
    clear h0
    go_enter Tryz.func55, Tryz.ntmps55
    go_wp2_with fail
    go_ret
    exact ⟨by rw [HL.out]; rfl, rfl⟩
end Go.Proofs.YtallnibjmffahaaGreatDoor

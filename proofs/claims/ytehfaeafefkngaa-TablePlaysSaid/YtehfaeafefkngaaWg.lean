/- append onto a row of the call's own: where the new slice lies. -/
import Derived.Test.YtehfaeafefkngaaWd
import Derived.Maps.AppendAt
set_option linter.unusedVariables false
set_option linter.unusedSimpArgs false
namespace Go.Proofs.Ytehfaeafefkngaa
open Go.RowKit

/-- append onto a row of the call's own, whatever is added. -/
theorem run_append_mine_at {P : Program} {base : Nat} (w : World) (t ty e : TypeId) (i : TypeInfo) (z : Value) (size bytes : Nat) (ht : P.underlying t = some (.slice e)) (hi : P.info? e = some i) (hz : i.zero = some z)
    (hsize : i.size = size) (hby : i.bytes = bytes) (hzs : z.cells.size = size) (hsz : 0 < size)
    {own n : Nat} {v : Value} {xs : List Value} (hown : w.ownsRow own e size v n xs)
    {B : Option Addr} {m d : Nat} {ys : List Value} (hy : Rd base e w size B m d ys) (h1 : ∀ u ∈ ys, u.oneCell' = true)
    (h63 : n + m ≤ maxLen) (hbytes : (n + m) * bytes ≤ 140737488355328) (hbase : own ≤ w.heap.size) :
    ∃ v' w', (Builtin.append_ #[t, t] ty #[v, .slice B m d]).run P w = .ok v' w' ∧ w'.ownsRow own e size v' (n + m) (xs ++ ys) ∧ w.grownBy w' v.ownBlock ∧ (v'.ownBlock = v.ownBlock ∨ v'.ownBlock = some w.heap.size) := by
  by_cases hm : m = 0
  · subst hm
    have hn : ys = [] := List.eq_nil_of_length_eq_zero (by simpa using hy.len)
    subst hn
    refine ⟨v, w, ?_, by simpa using hown, ⟨rfl, rfl, rfl, Nat.le_refl _, fun _ _ _ => rfl⟩, .inl rfl⟩
    rcases hown.2 with ⟨rfl, rfl⟩ | ⟨g, cap, cur, rfl, hb, hh, h1, h2, h3, h4⟩
    · cases B <;> simp [Builtin.append_, run_underlying ht, sizeOf, typeInfo, hi, Builtin.lenOf, Builtin.firstCells, loadCells, loadCellsFrom, storeCells]
    · cases B <;> simp [Builtin.append_, run_underlying ht, sizeOf, typeInfo, hi, Builtin.lenOf, Builtin.firstCells, loadCells, loadCellsFrom, storeCells, h1]
  · obtain ⟨b, off, rfl, hb, hcells⟩ := hy.at_ (by omega)
    have hnews : ∀ j u, ys[j]? = some u → w.cell? ((⟨b, off, none⟩ : Addr).add j) = some u := fun j u hu => by rw [add_lit']; exact hcells j u hu
    obtain ⟨v', w', hrun, r1, r2, _, r3⟩ := run_append_own_at (P := P) w own t ty e i z size bytes ht hi hz hsize hby hzs hsz v n xs hown ⟨b, off, none⟩ m d ys hy.len hnews h1 h63 hbytes hbase
    exact ⟨v', w', hrun, r1, r2, r3⟩


section
variable {P : Program} {ops : Array Oper} {o : Oper} {a : Act} {w : World} {K : Act → World → Prop} {Q : Exit → Act → World → Prop}
theorem wp_append_mine_at {base own : Nat} (s x : Operand) (t : TypeId) (hop : o.op = .call { callee := .builtin .append, args := #[s, x], argTypes := #[t, t] })
    {e size bytes : Nat} (E : Elt P t e size bytes)
    {v : Value} {B : Option Addr} {n m d : Nat} {xs ys : List Value} (hs : a.eval s = v) (hx : a.eval x = .slice B m d) (rx : w.ownsRow own e size v n xs) (ry : Rd base e w size B m d ys)
    (h1 : ∀ u ∈ ys, u.oneCell' = true) (h63 : n + m ≤ maxLen) (hbytes : (n + m) * bytes ≤ 140737488355328) (hb : own ≤ w.heap.size)
    (hK : ∀ v' w', w'.ownsRow own e size v' (n + m) (xs ++ ys) → w.grownBy w' v.ownBlock → (v'.ownBlock = v.ownBlock ∨ v'.ownBlock = some w.heap.size) → K (a.put o.dst v') w') : o.wp P a w K Q := by
  obtain ⟨i, z, hi, hz, hsz, hby, hzs⟩ := E.info
  obtain ⟨v', w', hr, h2, h3, h4⟩ := run_append_mine_at (P := P) (base := base) w t o.type e i z size bytes E.ht hi hz hsz hby hzs E.pos rx ry h1 h63 hbytes hb
  unfold Oper.wp execOp
  simp only [hop, resolve, invoke, builtin, Sem.run_bind, Sem.run_pure, Result.andThen_ok, List.map_toArray, List.map_cons, List.map_nil, hs, hx, hr]
  exact hK _ _ h2 h3 h4
theorem wpList_append_mine_at {rest : List Oper} {base own : Nat} (hg : o.guard = none) (s x : Operand) (t : TypeId) (hop : o.op = .call { callee := .builtin .append, args := #[s, x], argTypes := #[t, t] })
    {e size bytes : Nat} (E : Elt P t e size bytes)
    {v : Value} {B : Option Addr} {n m d : Nat} {xs ys : List Value} (hs : a.eval s = v) (hx : a.eval x = .slice B m d) (rx : w.ownsRow own e size v n xs) (ry : Rd base e w size B m d ys)
    (h1 : ∀ u ∈ ys, u.oneCell' = true) (h63 : n + m ≤ maxLen) (hbytes : (n + m) * bytes ≤ 140737488355328) (hb : own ≤ w.heap.size)
    (hK : ∀ v' w', w'.ownsRow own e size v' (n + m) (xs ++ ys) → w.grownBy w' v.ownBlock → (v'.ownBlock = v.ownBlock ∨ v'.ownBlock = some w.heap.size) → wpList P ops Q rest (a.put o.dst v') w') : wpList P ops Q (o :: rest) a w :=
  wpList_plain hg fun _ hk => wp_append_mine_at s x t hop E hs hx rx ry h1 h63 hbytes hb fun v' w' h2 h3 h4 => hk _ _ (hK v' w' h2 h3 h4)
theorem step_append_mine_at {F : Prop} {base own : Nat} (hg : o.guard = none) (s x : Operand) (t : TypeId) (hop : o.op = .call { callee := .builtin .append, args := #[s, x], argTypes := #[t, t] })
    {e size bytes : Nat} (E : Elt P t e size bytes)
    {v : Value} {B : Option Addr} {n m d : Nat} {xs ys : List Value} (hs : a.eval s = v) (hx : a.eval x = .slice B m d) (rx : w.ownsRow own e size v n xs) (ry : Rd base e w size B m d ys)
    (h1 : ∀ u ∈ ys, u.oneCell' = true) (h63 : n + m ≤ maxLen) (hbytes : (n + m) * bytes ≤ 140737488355328) (hb : own ≤ w.heap.size)
    (hK : ∀ v' w', w'.ownsRow own e size v' (n + m) (xs ++ ys) → w.grownBy w' v.ownBlock → (v'.ownBlock = v.ownBlock ∨ v'.ownBlock = some w.heap.size) → K (a.put o.dst v') w') : if Region.wanted o (yielded ops a.tmps) = true then Oper.wp P o a w K Q else F := by
  rw [if_pos (by simp [Region.wanted, hg])]
  exact wp_append_mine_at s x t hop E hs hx rx ry h1 h63 hbytes hb hK
end

end Go.Proofs.Ytehfaeafefkngaa

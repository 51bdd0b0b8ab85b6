/- The reader of fields: field, num, text, whole; op.open. -/
import Derived.Test.YtallnibjmffahaaGreatDoorJ16
set_option linter.unusedVariables false
set_option linter.unusedSimpArgs false
namespace Go.Proofs.YtallnibjmffahaaGreatDoor
open Go.RowKit

def rdS : TypeId → Bool := fun T => T == 128
/-- The reader, in its block. -/
structure Rr (base : Nat) (w : World) (g : Nat) (l : List FieldR) (ok : Bool) : Prop where
  at_ : ∃ A n c, w.heap[g]? = some (.cells #[.slice A n c, .bool ok] 128 (0, 0)) ∧ Rd base 94 w 3 A n c (fieldCells l)
  ge : base ≤ g
/-- What is read, and what the reader is then. -/
structure RdR (α : Type) where
  v : α
  l : List FieldR
  ok : Bool
def fldP (t : Bool) (l : List FieldR) (ok : Bool) : RdR FieldR :=
  match l with
  | [] => ⟨zeroF, [], false⟩
  | f :: r => if f.text ≠ t ∨ ¬ (0 ≤ f.n ∧ f.n ≤ 1099511627776) then ⟨zeroF, [], false⟩ else ⟨f, r, ok⟩
theorem run_field_n (a : Bool) (b : Int) (c : ByteArray) (w : World) : (Instr.field 94 (.agg #[.bool a, .int .i64 b, .string c]) 1).run Tryz.prog w = .ok (.int .i64 b) w := by
  unfold Instr.field
  simp [Sem.run_bind, run_underlying (by kernel_rfl : Tryz.prog.underlying 94 = some (.struct (Tryz.prog.fieldsOf 94)))]
  kernel_rfl
theorem run_field_s (a : Bool) (b : Int) (c : ByteArray) (w : World) : (Instr.field 94 (.agg #[.bool a, .int .i64 b, .string c]) 2).run Tryz.prog w = .ok (.string c) w := by
  unfold Instr.field
  simp [Sem.run_bind, run_underlying (by kernel_rfl : Tryz.prog.underlying 94 = some (.struct (Tryz.prog.fieldsOf 94)))]
  kernel_rfl
theorem rr_end {base : Nat} {w W : World} {g n c : Nat} {A : Option Addr} {l : List FieldR} {ok : Bool} {c0 : Array Value} {fr : Nat × Nat} (hG : w.heap[g]? = some (.cells c0 128 fr)) (hge : base ≤ g) (hbs : base ≤ w.heap.size) (hgb : w.grownBy W (some g))
    (hW : W.heap[g]? = some (.cells #[.slice A n c, .bool ok] 128 (0, 0))) (hR : Rd base 94 w 3 A n c (fieldCells l)) : Rr base W g l ok ∧ Kq rdS base w W :=
  ⟨⟨⟨A, n, c, hW, hR.grown hgb hG (by decide) hge⟩, hge⟩, ⟨(Below.refl _ _).grown hgb hbs (fun j hj => by injection hj with hj; omega), fun b o hb ho => by
    rw [hgb.block b (Array.getElem?_eq_some_iff.1 hb).1 (fun e => ?_)]
    · exact hb
    · injection e with e
      subst e
      rw [hG] at hb
      injection hb with hb
      subst hb
      have : rdS 128 = false := ho
      cases this⟩⟩
/-- The result's block, stored anew, the reader's block as it was left. -/
theorem gb_x {w V : World} {g xb : Nat} (h : w.grownBy V (some g)) (hx : w.heap.size ≤ xb) (u v t : Value) : w.grownBy (((V.setCell ⟨xb, 0, none⟩ u).setCell ⟨xb, 1, none⟩ v).setCell ⟨xb, 2, none⟩ t) (some g) :=
  gb_set (gb_set (gb_set h hx u) hx v) hx t
theorem hp_x {V : World} {g xb : Nat} {o : Obj} (hne : g ≠ xb) (h : V.heap[g]? = some o) (u v t : Value) : (((V.setCell ⟨xb, 0, none⟩ u).setCell ⟨xb, 1, none⟩ v).setCell ⟨xb, 2, none⟩ t).heap[g]? = some o := by
  rw [Below.heap_setCell _ ⟨xb, 2, none⟩ t g hne, Below.heap_setCell _ ⟨xb, 1, none⟩ v g hne, Below.heap_setCell _ ⟨xb, 0, none⟩ u g hne, h]

theorem rd_mid {w w1 : World} {g xb : Nat} {y z0 z1 z2 : Value} {ok : Bool} (hgb : w.grownBy w1 (some g)) (hG : w1.heap[g]? = some (.cells #[y, .bool ok] 128 (0, 0))) (hX : w1.heap[xb]? = some (.cells #[z0, z1, z2] 94 (0, 0))) (hx : w.heap.size ≤ xb) (hne : ¬ g = xb) (a0 a1 a2 s : Value) :
    w.grownBy ((((w1.setCell ⟨xb, 0, none⟩ a0).setCell ⟨xb, 1, none⟩ a1).setCell ⟨xb, 2, none⟩ a2).setCell ⟨g, 0, none⟩ s).drew (some g) ∧
      ((((w1.setCell ⟨xb, 0, none⟩ a0).setCell ⟨xb, 1, none⟩ a1).setCell ⟨xb, 2, none⟩ a2).setCell ⟨g, 0, none⟩ s).drew.heap[g]? = some (.cells #[s, .bool ok] 128 (0, 0)) ∧
      ((((w1.setCell ⟨xb, 0, none⟩ a0).setCell ⟨xb, 1, none⟩ a1).setCell ⟨xb, 2, none⟩ a2).setCell ⟨g, 0, none⟩ s).drew.heap[xb]? = some (.cells #[a0, a1, a2] 94 (0, 0)) := by
  have h1 := hp_x (g := g) (xb := xb) hne hG a0 a1 a2
  refine ⟨gb_trans (gb_trans (gb_x hgb hx a0 a1 a2) (gb_cell' _ g 0 s)) (gb_below (dr_below _) _), ?_, ?_⟩
  · show ((((w1.setCell ⟨xb, 0, none⟩ a0).setCell ⟨xb, 1, none⟩ a1).setCell ⟨xb, 2, none⟩ a2).setCell ⟨g, 0, none⟩ s).heap[g]? = _
    generalize ((w1.setCell ⟨xb, 0, none⟩ a0).setCell ⟨xb, 1, none⟩ a1).setCell ⟨xb, 2, none⟩ a2 = V at h1
    simp only [World.setCell, Array.getElem?_modify, h1, if_true, Option.map_some]
    rfl
  · show ((((w1.setCell ⟨xb, 0, none⟩ a0).setCell ⟨xb, 1, none⟩ a1).setCell ⟨xb, 2, none⟩ a2).setCell ⟨g, 0, none⟩ s).heap[xb]? = _
    rw [Below.heap_setCell _ ⟨g, 0, none⟩ s xb (fun e => hne e.symm)]
    simp only [World.setCell, Array.getElem?_modify, hX, if_true, Option.map_some]
    rfl

set_option maxHeartbeats 4000000 in
set_option maxRecDepth 100000 in
theorem rfield_nil {base : Nat} {w : World} {g : Nat} {ok : Bool} (t : Bool) (h : Rr base w g [] ok) (hbs : base ≤ w.heap.size) :
    Calls Tryz.prog 68 #[.pointer (some ⟨g, 0, none⟩), .bool t] w fun e w' => e = .returned (.agg #[.bool false, .int .i64 0, .string ⟨#[]⟩]) ∧ Rr base w' g [] false ∧ Kq rdS base w w' := by
  obtain ⟨⟨A, n, c, hG, hR⟩, hge⟩ := h
  obtain rfl : n = 0 := (hR.count (enc := FieldR.enc) (l := []) (fun _ => rfl) (by omega)).symm
  have hal : Below w.heap.size w (w.alloc (.cells #[.bool false, .int .i64 0, .string ⟨#[]⟩] 94)) := (Below.refl _ _).alloc (Nat.le_refl _) _
  have hG1 := (hal.block _ (Array.getElem?_eq_some_iff.1 hG).1).trans hG
  have GB1 := Asd.mk (gb_below hal (some g))
  have HG := Asd.mk hG
  have HG1 := Asd.mk hG1
  have GE := Asd.mk hge
  have gl : g < w.heap.size := (Array.getElem?_eq_some_iff.1 hG).1
  have hX := Asd.mk (heap_alloc_new w (.cells #[.bool false, .int .i64 0, .string ⟨#[]⟩] 94))
  have gne : ¬ w.heap.size = g := by omega
  have gne2 : ¬ g = w.heap.size := by omega
  clear hal hG hR hge
  go_enter Tryz.func68, Tryz.ntmps68
  go_upto_region 1 with fail
  obtain ⟨xb, hxb⟩ : ∃ xb, xb = w.heap.size := ⟨_, rfl⟩
  rw [← hxb] at hX gne gne2 ⊢
  have XB : Asd (w.heap.size ≤ xb) := ⟨by omega⟩
  generalize w.alloc (.cells #[.bool false, .int .i64 0, .string ⟨#[]⟩] 94) = w1 at hG1 HG1 GB1 hX ⊢
  have g0 := (cell_of_row w1 g 0 _ _ _ hG1).trans rfl
  have g1 := (cell_of_row w1 g 1 _ _ _ hG1).trans rfl
  have gf : ∀ i, w1.frozen? ⟨g, i, none⟩ = false := fun i => by simp [World.frozen?, hG1]
  have x0 := (cell_of_row w1 xb 0 _ _ _ hX.out).trans rfl
  have x1 := (cell_of_row w1 xb 1 _ _ _ hX.out).trans rfl
  have x2 := (cell_of_row w1 xb 2 _ _ _ hX.out).trans rfl
  have xf : ∀ i, w1.frozen? ⟨xb, i, none⟩ = false := fun i => by simp [World.frozen?, hX.out]
  clear hG1 hxb
  go_wp2_with fail
  refine bodyPost_ret (v := .agg #[.bool false, .int .i64 0, .string ⟨#[]⟩]) (by simp [results, Tryz.results68, go_sem, x0, x1, x2, xf, gne, gne2]) rfl ?_
  have hV : ((w1.setCell ⟨g, 1, none⟩ (.bool false)).setCell ⟨g, 0, none⟩ (.slice none 0 0)).heap[g]? = some (.cells #[.slice none 0 0, .bool false] 128 (0, 0)) := by
    simp only [World.setCell, Array.getElem?_modify, HG1.out, if_true, Option.map_some]
    rfl
  obtain ⟨r1, r2⟩ := rr_end HG.out GE.out hbs (gb_x (gb_trans (gb_trans GB1.out (gb_cell' w1 g 1 (.bool false))) (gb_cell' _ g 0 (.slice none 0 0))) XB.out (.bool false) (.int .i64 0) (.string ⟨#[]⟩)) (hp_x gne2 hV _ _ _) (l := []) Rd.none_
  exact ⟨rfl, r1, r2⟩
set_option maxHeartbeats 8000000 in
set_option maxRecDepth 100000 in
theorem rfield_text {base : Nat} {w : World} {g : Nat} {ok : Bool} {l : List FieldR} (ft t : Bool) (fn : Int) (fs : ByteArray) (h : Rr base w g (⟨ft, fn, fs⟩ :: l) ok) (hbs : base ≤ w.heap.size) (hne : ft ≠ t) :
    Calls Tryz.prog 68 #[.pointer (some ⟨g, 0, none⟩), .bool t] w fun e w' => e = .returned (.agg #[.bool false, .int .i64 0, .string ⟨#[]⟩]) ∧ Rr base w' g [] false ∧ Kq rdS base w w' := by
  obtain ⟨⟨A, n, c, hG, hR⟩, hge⟩ := h
  have hlen := hR.count (enc := FieldR.enc) (fun _ => rfl) (by omega)
  obtain ⟨m, rfl⟩ : ∃ m, n = m + 1 := ⟨l.length, by rw [← hlen]; rfl⟩
  obtain ⟨b, off, rfl, hbl, hil, hcs⟩ := hR.at_enc (enc := FieldR.enc) (fun _ => rfl) (by omega) (i := 0) (by omega)
  have c0 : w.cell? ⟨b, off, none⟩ = some (.bool ft) := by simpa using hcs 0 _ rfl
  have c1 : w.cell? ⟨b, off + 1, none⟩ = some (.int .i64 fn) := by simpa using hcs 1 _ rfl
  have c2 : w.cell? ⟨b, off + 2, none⟩ = some (.string fs) := by simpa using hcs 2 _ rfl
  have hcap := hR.cap
  have hm0 : ¬ ((m : Int) + 1 = 0) := by omega
  have hal : Below w.heap.size w (w.alloc (.cells #[.bool false, .int .i64 0, .string ⟨#[]⟩] 94)) := (Below.refl _ _).alloc (Nat.le_refl _) _
  have hG1 := (hal.block _ (Array.getElem?_eq_some_iff.1 hG).1).trans hG
  have e0 := (hal.cell (p := ⟨b, off, none⟩) hbl).trans c0
  have e1 := (hal.cell (p := ⟨b, off + 1, none⟩) hbl).trans c1
  have e2 := (hal.cell (p := ⟨b, off + 2, none⟩) hbl).trans c2
  have GB1 := Asd.mk (gb_below hal (some g))
  have HG := Asd.mk hG
  have HG1 := Asd.mk hG1
  have GE := Asd.mk hge
  have gl : g < w.heap.size := (Array.getElem?_eq_some_iff.1 hG).1
  have hX := Asd.mk (heap_alloc_new w (.cells #[.bool false, .int .i64 0, .string ⟨#[]⟩] 94))
  have gne : ¬ w.heap.size = g := by omega
  have gne2 : ¬ g = w.heap.size := by omega
  have bne : ¬ w.heap.size = b := by omega
  have bne2 : ¬ b = w.heap.size := by omega
  have bg : ¬ g = b := fun e => by
    subst e
    rcases (hR.at_ (by omega)) with ⟨b', off', e', hst, _⟩
    injection e' with e'
    injection e' with e1' _ _
    subst e1'
    exact hst.ne hG (by decide) hge rfl
  have bg2 : ¬ b = g := fun e => bg e.symm
  have HR := Asd.mk hR
  clear hal hG hR hge hcs c0 c1 c2 hlen hil
  cases ft <;> cases t
  · exact absurd rfl hne
  · clear hne
    go_enter Tryz.func68, Tryz.ntmps68
    go_upto_region 1 with fail
    obtain ⟨xb, hxb⟩ : ∃ xb, xb = w.heap.size := ⟨_, rfl⟩
    rw [← hxb] at hX gne gne2 bne bne2 ⊢
    have XB : Asd (w.heap.size ≤ xb) := ⟨by omega⟩
    generalize w.alloc (.cells #[.bool false, .int .i64 0, .string ⟨#[]⟩] 94) = w1 at hG1 HG1 GB1 hX e0 e1 e2 ⊢
    have g0 := (cell_of_row w1 g 0 _ _ _ hG1).trans rfl
    have g1 := (cell_of_row w1 g 1 _ _ _ hG1).trans rfl
    have gf : ∀ i, w1.frozen? ⟨g, i, none⟩ = false := fun i => by simp [World.frozen?, hG1]
    have x0 := (cell_of_row w1 xb 0 _ _ _ hX.out).trans rfl
    have x1 := (cell_of_row w1 xb 1 _ _ _ hX.out).trans rfl
    have x2 := (cell_of_row w1 xb 2 _ _ _ hX.out).trans rfl
    have xf : ∀ i, w1.frozen? ⟨xb, i, none⟩ = false := fun i => by simp [World.frozen?, hX.out]
    clear hG1 hxb
    go_wp2_with fail
    refine bodyPost_ret (v := .agg #[.bool false, .int .i64 0, .string ⟨#[]⟩]) (by simp [results, Tryz.results68, go_sem, x0, x1, x2, xf, gne, gne2]) rfl ?_
    have hV : ((w1.setCell ⟨g, 1, none⟩ (.bool false)).setCell ⟨g, 0, none⟩ (.slice none 0 0)).heap[g]? = some (.cells #[.slice none 0 0, .bool false] 128 (0, 0)) := by
      simp only [World.setCell, Array.getElem?_modify, HG1.out, if_true, Option.map_some]
      rfl
    obtain ⟨r1, r2⟩ := rr_end HG.out GE.out hbs (gb_x (gb_trans (gb_trans GB1.out (gb_cell' w1 g 1 (.bool false))) (gb_cell' _ g 0 (.slice none 0 0))) XB.out (.bool false) (.int .i64 0) (.string ⟨#[]⟩)) (hp_x gne2 hV _ _ _) (l := []) Rd.none_
    exact ⟨rfl, r1, r2⟩
  · clear hne
    go_enter Tryz.func68, Tryz.ntmps68
    go_upto_region 1 with fail
    obtain ⟨xb, hxb⟩ : ∃ xb, xb = w.heap.size := ⟨_, rfl⟩
    rw [← hxb] at hX gne gne2 bne bne2 ⊢
    have XB : Asd (w.heap.size ≤ xb) := ⟨by omega⟩
    generalize w.alloc (.cells #[.bool false, .int .i64 0, .string ⟨#[]⟩] 94) = w1 at hG1 HG1 GB1 hX e0 e1 e2 ⊢
    have g0 := (cell_of_row w1 g 0 _ _ _ hG1).trans rfl
    have g1 := (cell_of_row w1 g 1 _ _ _ hG1).trans rfl
    have gf : ∀ i, w1.frozen? ⟨g, i, none⟩ = false := fun i => by simp [World.frozen?, hG1]
    have x0 := (cell_of_row w1 xb 0 _ _ _ hX.out).trans rfl
    have x1 := (cell_of_row w1 xb 1 _ _ _ hX.out).trans rfl
    have x2 := (cell_of_row w1 xb 2 _ _ _ hX.out).trans rfl
    have xf : ∀ i, w1.frozen? ⟨xb, i, none⟩ = false := fun i => by simp [World.frozen?, hX.out]
    clear hG1 hxb
    go_wp2_with fail
    refine bodyPost_ret (v := .agg #[.bool false, .int .i64 0, .string ⟨#[]⟩]) (by simp [results, Tryz.results68, go_sem, x0, x1, x2, xf, gne, gne2]) rfl ?_
    have hV : ((w1.setCell ⟨g, 1, none⟩ (.bool false)).setCell ⟨g, 0, none⟩ (.slice none 0 0)).heap[g]? = some (.cells #[.slice none 0 0, .bool false] 128 (0, 0)) := by
      simp only [World.setCell, Array.getElem?_modify, HG1.out, if_true, Option.map_some]
      rfl
    obtain ⟨r1, r2⟩ := rr_end HG.out GE.out hbs (gb_x (gb_trans (gb_trans GB1.out (gb_cell' w1 g 1 (.bool false))) (gb_cell' _ g 0 (.slice none 0 0))) XB.out (.bool false) (.int .i64 0) (.string ⟨#[]⟩)) (hp_x gne2 hV _ _ _) (l := []) Rd.none_
    exact ⟨rfl, r1, r2⟩
  · exact absurd rfl hne

set_option maxHeartbeats 8000000 in
set_option maxRecDepth 100000 in
theorem rfield_range {base : Nat} {w : World} {g : Nat} {ok : Bool} {l : List FieldR} (ft t : Bool) (fn : Int) (fs : ByteArray) (h : Rr base w g (⟨ft, fn, fs⟩ :: l) ok) (hbs : base ≤ w.heap.size) (heq : ft = t) (hb : (decide (0 ≤ fn) && decide (fn ≤ 1099511627776)) = false) :
    Calls Tryz.prog 68 #[.pointer (some ⟨g, 0, none⟩), .bool t] w fun e w' => e = .returned (.agg #[.bool false, .int .i64 0, .string ⟨#[]⟩]) ∧ Rr base w' g [] false ∧ Kq rdS base w w' := by
  obtain ⟨⟨A, n, c, hG, hR⟩, hge⟩ := h
  have hlen := hR.count (enc := FieldR.enc) (fun _ => rfl) (by omega)
  obtain ⟨m, rfl⟩ : ∃ m, n = m + 1 := ⟨l.length, by rw [← hlen]; rfl⟩
  obtain ⟨b, off, rfl, hbl, hil, hcs⟩ := hR.at_enc (enc := FieldR.enc) (fun _ => rfl) (by omega) (i := 0) (by omega)
  have c0 : w.cell? ⟨b, off, none⟩ = some (.bool ft) := by simpa using hcs 0 _ rfl
  have c1 : w.cell? ⟨b, off + 1, none⟩ = some (.int .i64 fn) := by simpa using hcs 1 _ rfl
  have c2 : w.cell? ⟨b, off + 2, none⟩ = some (.string fs) := by simpa using hcs 2 _ rfl
  have hcap := hR.cap
  have hm0 : ¬ ((m : Int) + 1 = 0) := by omega
  have hal : Below w.heap.size w (w.alloc (.cells #[.bool false, .int .i64 0, .string ⟨#[]⟩] 94)) := (Below.refl _ _).alloc (Nat.le_refl _) _
  have hG1 := (hal.block _ (Array.getElem?_eq_some_iff.1 hG).1).trans hG
  have e0 := (hal.cell (p := ⟨b, off, none⟩) hbl).trans c0
  have e1 := (hal.cell (p := ⟨b, off + 1, none⟩) hbl).trans c1
  have e2 := (hal.cell (p := ⟨b, off + 2, none⟩) hbl).trans c2
  have GB1 := Asd.mk (gb_below hal (some g))
  have HG := Asd.mk hG
  have HG1 := Asd.mk hG1
  have GE := Asd.mk hge
  have gl : g < w.heap.size := (Array.getElem?_eq_some_iff.1 hG).1
  have hX := Asd.mk (heap_alloc_new w (.cells #[.bool false, .int .i64 0, .string ⟨#[]⟩] 94))
  have gne : ¬ w.heap.size = g := by omega
  have gne2 : ¬ g = w.heap.size := by omega
  have bne : ¬ w.heap.size = b := by omega
  have bne2 : ¬ b = w.heap.size := by omega
  have bg : ¬ g = b := fun e => by
    subst e
    rcases (hR.at_ (by omega)) with ⟨b', off', e', hst, _⟩
    injection e' with e'
    injection e' with e1' _ _
    subst e1'
    exact hst.ne hG (by decide) hge rfl
  have bg2 : ¬ b = g := fun e => bg e.symm
  have HR := Asd.mk hR
  have IC : Asd (∀ W, Calls Tryz.prog 40 #[.int .i64 fn, .int .i64 0, .int .i64 1099511627776] W fun e w' => e = .returned (.bool false) ∧ W = w') := ⟨fun W => by
    have h := op_in fn 0 1099511627776 W
    rwa [hb] at h⟩
  clear hb
  clear hal hG hR hge hcs c0 c1 c2 hlen hil
  subst heq
  cases ft
  all_goals
    go_enter Tryz.func68, Tryz.ntmps68
    go_upto_region 1 with fail
    obtain ⟨xb, hxb⟩ : ∃ xb, xb = w.heap.size := ⟨_, rfl⟩
    rw [← hxb] at hX gne gne2 bne bne2 ⊢
    have XB : Asd (w.heap.size ≤ xb) := ⟨by omega⟩
    generalize w.alloc (.cells #[.bool false, .int .i64 0, .string ⟨#[]⟩] 94) = w1 at hG1 HG1 GB1 hX e0 e1 e2 ⊢
    have g0 := (cell_of_row w1 g 0 _ _ _ hG1).trans rfl
    have g1 := (cell_of_row w1 g 1 _ _ _ hG1).trans rfl
    have gf : ∀ i, w1.frozen? ⟨g, i, none⟩ = false := fun i => by simp [World.frozen?, hG1]
    have x0 := (cell_of_row w1 xb 0 _ _ _ hX.out).trans rfl
    have x1 := (cell_of_row w1 xb 1 _ _ _ hX.out).trans rfl
    have x2 := (cell_of_row w1 xb 2 _ _ _ hX.out).trans rfl
    have xf : ∀ i, w1.frozen? ⟨xb, i, none⟩ = false := fun i => by simp [World.frozen?, hX.out]
    clear hG1 hxb
    go_wp2_with (go_at_call 40; refine (IC.out _).mono ?_; rintro e w4 ⟨rfl, rfl⟩)
    refine bodyPost_ret (v := .agg #[.bool false, .int .i64 0, .string ⟨#[]⟩]) (by simp [results, Tryz.results68, go_sem, x0, x1, x2, xf, gne, gne2]) rfl ?_
    have hV : ((w1.setCell ⟨g, 1, none⟩ (.bool false)).setCell ⟨g, 0, none⟩ (.slice none 0 0)).heap[g]? = some (.cells #[.slice none 0 0, .bool false] 128 (0, 0)) := by
      simp only [World.setCell, Array.getElem?_modify, HG1.out, if_true, Option.map_some]
      rfl
    obtain ⟨r1, r2⟩ := rr_end HG.out GE.out hbs (gb_x (gb_trans (gb_trans GB1.out (gb_cell' w1 g 1 (.bool false))) (gb_cell' _ g 0 (.slice none 0 0))) XB.out (.bool false) (.int .i64 0) (.string ⟨#[]⟩)) (hp_x gne2 hV _ _ _) (l := []) Rd.none_
    exact ⟨rfl, r1, r2⟩

set_option maxHeartbeats 8000000 in
set_option maxRecDepth 100000 in
theorem rfield_good {base : Nat} {w : World} {g : Nat} {ok : Bool} {l : List FieldR} (ft t : Bool) (fn : Int) (fs : ByteArray) (h : Rr base w g (⟨ft, fn, fs⟩ :: l) ok) (hbs : base ≤ w.heap.size) (heq : ft = t) (hb : (decide (0 ≤ fn) && decide (fn ≤ 1099511627776)) = true) :
    Calls Tryz.prog 68 #[.pointer (some ⟨g, 0, none⟩), .bool t] w fun e w' => e = .returned (.agg #[.bool t, .int .i64 fn, .string fs]) ∧ Rr base w' g l ok ∧ Kq rdS base w w' := by
  obtain ⟨⟨A, n, c, hG, hR⟩, hge⟩ := h
  have hlen := hR.count (enc := FieldR.enc) (fun _ => rfl) (by omega)
  obtain ⟨m, rfl⟩ : ∃ m, n = m + 1 := ⟨l.length, by rw [← hlen]; rfl⟩
  obtain ⟨b, off, rfl, hbl, hil, hcs⟩ := hR.at_enc (enc := FieldR.enc) (fun _ => rfl) (by omega) (i := 0) (by omega)
  have c0 : w.cell? ⟨b, off, none⟩ = some (.bool ft) := by simpa using hcs 0 _ rfl
  have c1 : w.cell? ⟨b, off + 1, none⟩ = some (.int .i64 fn) := by simpa using hcs 1 _ rfl
  have c2 : w.cell? ⟨b, off + 2, none⟩ = some (.string fs) := by simpa using hcs 2 _ rfl
  have hcap := hR.cap
  have hm0 : ¬ ((m : Int) + 1 = 0) := by omega
  have hal : Below w.heap.size w (w.alloc (.cells #[.bool false, .int .i64 0, .string ⟨#[]⟩] 94)) := (Below.refl _ _).alloc (Nat.le_refl _) _
  have hG1 := (hal.block _ (Array.getElem?_eq_some_iff.1 hG).1).trans hG
  have e0 := (hal.cell (p := ⟨b, off, none⟩) hbl).trans c0
  have e1 := (hal.cell (p := ⟨b, off + 1, none⟩) hbl).trans c1
  have e2 := (hal.cell (p := ⟨b, off + 2, none⟩) hbl).trans c2
  have GB1 := Asd.mk (gb_below hal (some g))
  have HG := Asd.mk hG
  have HG1 := Asd.mk hG1
  have GE := Asd.mk hge
  have gl : g < w.heap.size := (Array.getElem?_eq_some_iff.1 hG).1
  have hX := Asd.mk (heap_alloc_new w (.cells #[.bool false, .int .i64 0, .string ⟨#[]⟩] 94))
  have gne : ¬ w.heap.size = g := by omega
  have gne2 : ¬ g = w.heap.size := by omega
  have bne : ¬ w.heap.size = b := by omega
  have bne2 : ¬ b = w.heap.size := by omega
  have bg : ¬ g = b := fun e => by
    subst e
    rcases (hR.at_ (by omega)) with ⟨b', off', e', hst, _⟩
    injection e' with e'
    injection e' with e1' _ _
    subst e1'
    exact hst.ne hG (by decide) hge rfl
  have bg2 : ¬ b = g := fun e => bg e.symm
  have HR := Asd.mk hR
  have HC : Asd (Rd base 94 w 3 (if c = 1 then some (⟨b, off, none⟩ : Addr) else some ⟨b, off + 3, none⟩) m (c - 1) (fieldCells l)) := ⟨by
    have h1 := hR.cut (lo := 1) (hi := m + 1) (c' := c) (by omega) (Nat.le_refl _) hcap (Nat.le_refl _)
    have e : ((fieldCells (⟨ft, fn, fs⟩ :: l)).drop (1 * 3)).take ((m + 1 - 1) * 3) = fieldCells l := by
      have h2 := flat_drop FieldR.enc 3 (fun _ => rfl) (⟨ft, fn, fs⟩ :: l) 1
      unfold fieldCells
      rw [h2, List.take_of_length_le (by rw [flat_len FieldR.enc 3 (fun _ => rfl)]; simp at hlen ⊢; omega)]
      rfl
    rw [e] at h1
    simpa [add_lit'] using h1⟩
  have hc1 : (1 : Int) ≤ (c : Int) := by omega
  have hc2 : (1 : Int) ≤ (m : Int) + 1 := by omega
  have hc3 : (m : Int) + 1 ≤ (c : Int) := by omega
  have hc4 : 1 ≤ c := by omega
  have hc5 : 1 ≤ m + 1 := by omega
  have IC : Asd (∀ W, Calls Tryz.prog 40 #[.int .i64 fn, .int .i64 0, .int .i64 1099511627776] W fun e w' => e = .returned (.bool true) ∧ W = w') := ⟨fun W => by
    have h := op_in fn 0 1099511627776 W
    rwa [hb] at h⟩
  clear hb
  clear hal hG hR hge hcs c0 c1 c2 hlen hil
  subst heq
  cases ft
  · go_enter Tryz.func68, Tryz.ntmps68
    go_upto_region 1 with fail
    obtain ⟨xb, hxb⟩ : ∃ xb, xb = w.heap.size := ⟨_, rfl⟩
    rw [← hxb] at hX gne gne2 bne bne2 ⊢
    have XB : Asd (w.heap.size ≤ xb) := ⟨by omega⟩
    generalize w.alloc (.cells #[.bool false, .int .i64 0, .string ⟨#[]⟩] 94) = w1 at hG1 HG1 GB1 hX e0 e1 e2 ⊢
    have g0 := (cell_of_row w1 g 0 _ _ _ hG1).trans rfl
    have g1 := (cell_of_row w1 g 1 _ _ _ hG1).trans rfl
    have gf : ∀ i, w1.frozen? ⟨g, i, none⟩ = false := fun i => by simp [World.frozen?, hG1]
    have x0 := (cell_of_row w1 xb 0 _ _ _ hX.out).trans rfl
    have x1 := (cell_of_row w1 xb 1 _ _ _ hX.out).trans rfl
    have x2 := (cell_of_row w1 xb 2 _ _ _ hX.out).trans rfl
    have xf : ∀ i, w1.frozen? ⟨xb, i, none⟩ = false := fun i => by simp [World.frozen?, hX.out]
    clear hG1 hxb
    go_upto_region 4 with (go_at_call 40; refine (IC.out _).mono ?_; rintro e w4 ⟨rfl, rfl⟩)
    have HK : Asd (c = 1 ∨ ¬ c = 1) := ⟨Decidable.em _⟩
    rcases HK.out with hck | hck
    · have hm : m = 0 := by omega
      rw [if_pos hck] at HC
      subst hck hm
      go_region
      all_goals
        have hM := rd_mid GB1.out HG1.out hX.out XB.out gne2 (.bool false) (.int .i64 fn) (.string fs) (.slice (some (⟨b, off, none⟩ : Addr)) 0 0)
        clear x0 x1 x2 xf g0 g1 gf e0 e1 e2 GB1 HG1 hX
        generalize ((((w1.setCell ⟨xb, 0, none⟩ (.bool false)).setCell ⟨xb, 1, none⟩ (.int .i64 fn)).setCell ⟨xb, 2, none⟩ (.string fs)).setCell ⟨g, 0, none⟩ (.slice (some (⟨b, off, none⟩ : Addr)) 0 0)).drew = w5 at hM ⊢
        obtain ⟨m1, m2, m3⟩ := hM
        have M1 := Asd.mk m1
        have M2 := Asd.mk m2
        have x0 := (cell_of_row w5 xb 0 _ _ _ m3).trans rfl
        have x1 := (cell_of_row w5 xb 1 _ _ _ m3).trans rfl
        have x2 := (cell_of_row w5 xb 2 _ _ _ m3).trans rfl
        have xf : ∀ i, w5.frozen? ⟨xb, i, none⟩ = false := fun i => by simp [World.frozen?, m3]
        clear m1 m2 m3
        go_wp2_with fail
        refine bodyPost_ret (v := .agg #[.bool false, .int .i64 fn, .string fs]) (by simp [results, Tryz.results68, go_sem, x0, x1, x2, xf]) rfl ?_
        obtain ⟨r1, r2⟩ := rr_end HG.out GE.out hbs (gb_x M1.out XB.out (.bool false) (.int .i64 fn) (.string fs)) (hp_x gne2 M2.out _ _ _) HC.out
        exact ⟨rfl, r1, r2⟩
    · rw [if_neg hck] at HC
      go_region
      all_goals
        have hM := rd_mid GB1.out HG1.out hX.out XB.out gne2 (.bool false) (.int .i64 fn) (.string fs) (.slice (some (⟨b, off + 3, none⟩ : Addr)) m (c - 1))
        clear x0 x1 x2 xf g0 g1 gf e0 e1 e2 GB1 HG1 hX
        generalize ((((w1.setCell ⟨xb, 0, none⟩ (.bool false)).setCell ⟨xb, 1, none⟩ (.int .i64 fn)).setCell ⟨xb, 2, none⟩ (.string fs)).setCell ⟨g, 0, none⟩ (.slice (some (⟨b, off + 3, none⟩ : Addr)) m (c - 1))).drew = w5 at hM ⊢
        obtain ⟨m1, m2, m3⟩ := hM
        have M1 := Asd.mk m1
        have M2 := Asd.mk m2
        have x0 := (cell_of_row w5 xb 0 _ _ _ m3).trans rfl
        have x1 := (cell_of_row w5 xb 1 _ _ _ m3).trans rfl
        have x2 := (cell_of_row w5 xb 2 _ _ _ m3).trans rfl
        have xf : ∀ i, w5.frozen? ⟨xb, i, none⟩ = false := fun i => by simp [World.frozen?, m3]
        clear m1 m2 m3
        go_wp2_with fail
        refine bodyPost_ret (v := .agg #[.bool false, .int .i64 fn, .string fs]) (by simp [results, Tryz.results68, go_sem, x0, x1, x2, xf]) rfl ?_
        obtain ⟨r1, r2⟩ := rr_end HG.out GE.out hbs (gb_x M1.out XB.out (.bool false) (.int .i64 fn) (.string fs)) (hp_x gne2 M2.out _ _ _) HC.out
        exact ⟨rfl, r1, r2⟩
  · go_enter Tryz.func68, Tryz.ntmps68
    go_upto_region 1 with fail
    obtain ⟨xb, hxb⟩ : ∃ xb, xb = w.heap.size := ⟨_, rfl⟩
    rw [← hxb] at hX gne gne2 bne bne2 ⊢
    have XB : Asd (w.heap.size ≤ xb) := ⟨by omega⟩
    generalize w.alloc (.cells #[.bool false, .int .i64 0, .string ⟨#[]⟩] 94) = w1 at hG1 HG1 GB1 hX e0 e1 e2 ⊢
    have g0 := (cell_of_row w1 g 0 _ _ _ hG1).trans rfl
    have g1 := (cell_of_row w1 g 1 _ _ _ hG1).trans rfl
    have gf : ∀ i, w1.frozen? ⟨g, i, none⟩ = false := fun i => by simp [World.frozen?, hG1]
    have x0 := (cell_of_row w1 xb 0 _ _ _ hX.out).trans rfl
    have x1 := (cell_of_row w1 xb 1 _ _ _ hX.out).trans rfl
    have x2 := (cell_of_row w1 xb 2 _ _ _ hX.out).trans rfl
    have xf : ∀ i, w1.frozen? ⟨xb, i, none⟩ = false := fun i => by simp [World.frozen?, hX.out]
    clear hG1 hxb
    go_upto_region 4 with (go_at_call 40; refine (IC.out _).mono ?_; rintro e w4 ⟨rfl, rfl⟩)
    have HK : Asd (c = 1 ∨ ¬ c = 1) := ⟨Decidable.em _⟩
    rcases HK.out with hck | hck
    · have hm : m = 0 := by omega
      rw [if_pos hck] at HC
      subst hck hm
      go_region
      all_goals
        have hM := rd_mid GB1.out HG1.out hX.out XB.out gne2 (.bool true) (.int .i64 fn) (.string fs) (.slice (some (⟨b, off, none⟩ : Addr)) 0 0)
        clear x0 x1 x2 xf g0 g1 gf e0 e1 e2 GB1 HG1 hX
        generalize ((((w1.setCell ⟨xb, 0, none⟩ (.bool true)).setCell ⟨xb, 1, none⟩ (.int .i64 fn)).setCell ⟨xb, 2, none⟩ (.string fs)).setCell ⟨g, 0, none⟩ (.slice (some (⟨b, off, none⟩ : Addr)) 0 0)).drew = w5 at hM ⊢
        obtain ⟨m1, m2, m3⟩ := hM
        have M1 := Asd.mk m1
        have M2 := Asd.mk m2
        have x0 := (cell_of_row w5 xb 0 _ _ _ m3).trans rfl
        have x1 := (cell_of_row w5 xb 1 _ _ _ m3).trans rfl
        have x2 := (cell_of_row w5 xb 2 _ _ _ m3).trans rfl
        have xf : ∀ i, w5.frozen? ⟨xb, i, none⟩ = false := fun i => by simp [World.frozen?, m3]
        clear m1 m2 m3
        go_wp2_with fail
        refine bodyPost_ret (v := .agg #[.bool true, .int .i64 fn, .string fs]) (by simp [results, Tryz.results68, go_sem, x0, x1, x2, xf]) rfl ?_
        obtain ⟨r1, r2⟩ := rr_end HG.out GE.out hbs (gb_x M1.out XB.out (.bool true) (.int .i64 fn) (.string fs)) (hp_x gne2 M2.out _ _ _) HC.out
        exact ⟨rfl, r1, r2⟩
    · rw [if_neg hck] at HC
      go_region
      all_goals
        have hM := rd_mid GB1.out HG1.out hX.out XB.out gne2 (.bool true) (.int .i64 fn) (.string fs) (.slice (some (⟨b, off + 3, none⟩ : Addr)) m (c - 1))
        clear x0 x1 x2 xf g0 g1 gf e0 e1 e2 GB1 HG1 hX
        generalize ((((w1.setCell ⟨xb, 0, none⟩ (.bool true)).setCell ⟨xb, 1, none⟩ (.int .i64 fn)).setCell ⟨xb, 2, none⟩ (.string fs)).setCell ⟨g, 0, none⟩ (.slice (some (⟨b, off + 3, none⟩ : Addr)) m (c - 1))).drew = w5 at hM ⊢
        obtain ⟨m1, m2, m3⟩ := hM
        have M1 := Asd.mk m1
        have M2 := Asd.mk m2
        have x0 := (cell_of_row w5 xb 0 _ _ _ m3).trans rfl
        have x1 := (cell_of_row w5 xb 1 _ _ _ m3).trans rfl
        have x2 := (cell_of_row w5 xb 2 _ _ _ m3).trans rfl
        have xf : ∀ i, w5.frozen? ⟨xb, i, none⟩ = false := fun i => by simp [World.frozen?, m3]
        clear m1 m2 m3
        go_wp2_with fail
        refine bodyPost_ret (v := .agg #[.bool true, .int .i64 fn, .string fs]) (by simp [results, Tryz.results68, go_sem, x0, x1, x2, xf]) rfl ?_
        obtain ⟨r1, r2⟩ := rr_end HG.out GE.out hbs (gb_x M1.out XB.out (.bool true) (.int .i64 fn) (.string fs)) (hp_x gne2 M2.out _ _ _) HC.out
        exact ⟨rfl, r1, r2⟩

end Go.Proofs.YtallnibjmffahaaGreatDoor

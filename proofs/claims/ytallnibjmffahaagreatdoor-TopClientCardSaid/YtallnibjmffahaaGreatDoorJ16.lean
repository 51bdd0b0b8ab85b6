/- The writer of fields: num, text. op.Encode: a request as bytes. -/
import Derived.Test.YtallnibjmffahaaGreatDoorJ12
import Derived.Test.YtallnibjmffahaaGreatDoorJ15
set_option linter.unusedVariables false
set_option linter.unusedSimpArgs false
namespace Go.Proofs.YtallnibjmffahaaGreatDoor
open Go.RowKit

/-- What stays when blocks of some types, that the call has made, are written. -/
def obS (S : TypeId → Bool) : Obj → Bool
  | .cells _ T _ => S T
  | _ => false
structure Kq (S : TypeId → Bool) (base : Nat) (w w' : World) : Prop where
  below : Below base w w'
  rest : ∀ (b : Nat) (o : Obj), w.heap[b]? = some o → obS S o = false → w'.heap[b]? = some o
section
variable {S S' : TypeId → Bool} {T U : TypeId} {base : Nat} {w w1 w' : World}
theorem Kq.refl (S : TypeId → Bool) (base : Nat) (w : World) : Kq S base w w := ⟨Below.refl _ _, fun _ _ h _ => h⟩
theorem Kq.trans (h : Kq S base w w1) (k : Kq S base w1 w') : Kq S base w w' := ⟨h.below.trans k.below, fun b o hb ho => k.rest b o (h.rest b o hb ho) ho⟩
theorem Kq.of_below (h : Below w.heap.size w w') (hb : base ≤ w.heap.size) : Kq S base w w' := ⟨h.mono hb, fun b o hb ho => by rw [h.block b (Array.getElem?_eq_some_iff.1 hb).1]; exact hb⟩
theorem Kq.alloc (h : Kq S base w w1) (hb : base ≤ w1.heap.size) (o : Obj) : Kq S base w (w1.alloc o) := h.trans (Kq.of_below ((Below.refl _ _).alloc (Nat.le_refl _) o) hb)
theorem Kq.drew (h : Kq S base w w1) : Kq S base w w1.drew := ⟨h.below.drew, fun b o hb ho => h.rest b o hb ho⟩
theorem Kq.of_kp (h : Kp T base w w') (hS : S T = true) : Kq S base w w' := ⟨h.below, fun b o hb ho => h.rest b o hb fun cs fr e => by
  subst e
  have ho' : S T = false := ho
  rw [hS] at ho'
  cases ho'⟩
theorem Kq.mono (h : Kq S base w w') (hs : ∀ T, S T = true → S' T = true) : Kq S' base w w' := ⟨h.below, fun b o hb ho => h.rest b o hb (by
  cases o with
  | cells cs T fr =>
    have ho' : S' T = false := ho
    cases hT : S T with
    | false => exact hT
    | true => rw [hs T hT] at ho'; cases ho'
  | _ => rfl)⟩
theorem Kq.lower {base' : Nat} (h : Kq S base w w') (hb : base' ≤ base) : Kq S base' w w' := ⟨h.below.mono hb, h.rest⟩
theorem Kq.set {cs : Array Value} {fr : Nat × Nat} {g : Nat} (hg : w.heap[g]? = some (.cells cs T fr)) (hS : S T = true) (hb : base ≤ g) (j : Nat) (u : Value) : Kq S base w (w.setCell ⟨g, j, none⟩ u) :=
  ⟨(Below.refl _ _).setCell hb u, fun b o hbo ho => by
    rw [Below.heap_setCell w ⟨g, j, none⟩ u b (fun e => ?_)]
    · exact hbo
    · subst e
      rw [hg] at hbo
      injection hbo with hbo
      subst hbo
      have ho' : S T = false := ho
      rw [hS] at ho'
      cases ho'⟩
theorem Kq.set_new (h : Kq S base w w1) {g : Nat} (hg : w.heap.size ≤ g) (hb : base ≤ g) (j : Nat) (u : Value) : Kq S base w (w1.setCell ⟨g, j, none⟩ u) :=
  ⟨h.below.setCell hb u, fun b o hbo ho => by
    have := (Array.getElem?_eq_some_iff.1 hbo).1
    rw [Below.heap_setCell w1 ⟨g, j, none⟩ u b (by simp only; omega)]
    exact h.rest b o hbo ho⟩
theorem Kq.size (h : Kq S base w w') : w.heap.size ≤ w'.heap.size := h.below.size
theorem Kq.rd {k n c : Nat} {A : Option Addr} {xs : List Value} (h : Kq S base w w') (hr : Rd base U w k A n c xs) (hU : S U = false) : Rd base U w' k A n c xs :=
  hr.keepT h.size (fun b hb => h.below.block b hb) (fun b cs fr hb => by rw [hb]; exact h.rest b _ hb hU)
theorem Kq.blk (h : Kq S base w w') {g : Nat} {cs : Array Value} {fr : Nat × Nat} (hb : w.heap[g]? = some (.cells cs U fr)) (hU : S U = false) : w'.heap[g]? = some (.cells cs U fr) := h.rest g _ hb hU
theorem Kq.own_ {b k n : Nat} {v : Value} {xs : List Value} (h : Kq S base w w') (ho : w.ownsRow b U k v n xs) (hU : S U = false) : w'.ownsRow b U k v n xs := by
  refine ⟨ho.1, ho.2.imp id fun ⟨g, cap, cur, h1, h2, h3, h4⟩ => ⟨g, cap, cur, h1, h2, h.blk h3 hU, h4⟩⟩
end
/-- The writer, in its block. -/
def wrS : TypeId → Bool := fun T => T == 94 || T == 118
structure Wr (base : Nat) (w : World) (g : Nat) (l : List FieldR) : Prop where
  at_ : ∃ A n c, w.heap[g]? = some (.cells #[.slice A n c] 118 (0, 0)) ∧ w.ownsRow base 94 3 (.slice A n c) n (fieldCells l)
  ge : base ≤ g
theorem Wr.keep {base : Nat} {w w' : World} {g : Nat} {l : List FieldR} (h : Wr base w g l) (hb : Below w.heap.size w w') : Wr base w' g l := by
  obtain ⟨⟨A, n, c, h1, h2⟩, h3⟩ := h
  exact ⟨⟨A, n, c, (hb.block _ (Array.getElem?_eq_some_iff.1 h1).1).trans h1, h2.kept (gb_below hb none) (by cases (Value.slice A n c).ownBlock <;> simp)⟩, h3⟩
theorem Wr.alloc {base : Nat} {w : World} {g : Nat} {l : List FieldR} (h : Wr base w g l) (o : Obj) : Wr base (w.alloc o) g l := h.keep ((Below.refl _ _).alloc (Nat.le_refl _) o)
theorem wr_put {base : Nat} {w : World} {g n4 d4 : Nat} {A4 : Option Addr} {c0 : Array Value} {l : List FieldR} (h0 : c0.size = 1) (hG : w.heap[g]? = some (.cells c0 118 (0, 0))) (hO : w.ownsRow base 94 3 (.slice A4 n4 d4) n4 (fieldCells l)) (hge : base ≤ g) :
    Wr base (w.setCell ⟨g, 0, none⟩ (.slice A4 n4 d4)) g l ∧ Kq wrS base w (w.setCell ⟨g, 0, none⟩ (.slice A4 n4 d4)) := by
  refine ⟨⟨⟨A4, n4, d4, ?_, ?_⟩, hge⟩, Kq.set hG rfl hge 0 _⟩
  · simp only [World.setCell, Array.getElem?_modify, hG, if_true]
    have : c0.setIfInBounds 0 (.slice A4 n4 d4) = #[.slice A4 n4 d4] := by
      apply Array.ext
      · simp [h0]
      · intro i h1 h2
        have : i = 0 := by simp at h2; omega
        subst this
        simp
    simp [this]
  · exact hO.kept (gb_cell' _ _ _ _) (.inr fun e => by
      obtain ⟨⟨cs, fr, h2⟩, _⟩ := own_istM hO _ e
      rw [hG] at h2
      injection h2 with h2
      injection h2 with _ h2
      exact absurd h2 (by decide))
def intF (v : Int) : FieldR := ⟨false, v, ⟨#[]⟩⟩
def WrPost (base : Nat) (w : World) (g : Nat) (l : List FieldR) (e : Ending) (w' : World) : Prop := e = .returned (.tuple #[]) ∧ Wr base w' g l ∧ Kq wrS base w w'

set_option maxHeartbeats 4000000 in
set_option maxRecDepth 100000 in
theorem num_calls {base b2 : Nat} {w : World} {g : Nat} {l : List FieldR} (hw : Wr base w g l) (hl : l.length ≤ 100000) {P : Option Addr} {k c : Nat} {ns : List Int} (hr : Rd base 3 w 1 P k c (ns.flatMap fun v => [.int .i64 v])) (hk : k ≤ 1000) (hbs : base ≤ w.heap.size) :
    Calls Tryz.prog 46 #[.pointer (some ⟨g, 0, none⟩), .slice P k c] w (WrPost base w g (l ++ ns.map intF)) := by
  have hn : ns.length = k := hr.count (fun _ => rfl) (by omega)
  have R := Asd.mk hr
  have N := Asd.mk hn
  have W0 : Asd (Wr base w g (l ++ (ns.take 0).map intF)) := ⟨by simpa using hw⟩
  clear hr hn hw
  go_enter Tryz.func46, Tryz.ntmps46
  go_wp2_with fail
  go_loopw [8] (fun s8 wr => ∃ q : Nat, s8 = .int .i64 q ∧ q ≤ k ∧ Asd (Wr base wr g (l ++ (ns.take q).map intF)) ∧ Asd (Kq wrS base w wr)) (fun s8 _ => k - (intOf s8).toNat)
  case atStart => exact ⟨0, rfl, Nat.zero_le _, W0, ⟨Kq.refl _ _ _⟩⟩
  case round =>
    obtain ⟨q, rfl, hq, WW, KW⟩ := hrel
    by_cases hlt : q < k
    · obtain ⟨b, off, rfl, hbl, hil, hcs⟩ := (KW.out.rd R.out rfl).at_enc (enc := fun v : Int => [.int .i64 v]) (fun _ => rfl) (by omega) hlt
      have hcap : q < c := Nat.lt_of_lt_of_le hlt R.out.cap
      have c0 := hcs 0 _ rfl
      rw [Nat.add_zero, Nat.mul_one] at c0
      have TK : Asd ((ns.take (q + 1)).map intF = (ns.take q).map intF ++ [intF ns[q]]) := ⟨by rw [List.take_succ_eq_append_getElem hil, List.map_append]; rfl⟩
      generalize ns[q] = v at c0 TK
      clear hcs
      obtain ⟨⟨A, n, d, hG, hO⟩, hge⟩ := WW.out
      have hbs2 : base ≤ wr.heap.size := Nat.le_trans hbs KW.out.size
      have hll : n ≤ 110000 := by
        have h1 := hO.1
        unfold fieldCells at h1
        rw [flat_len FieldR.enc 3 (fun _ => rfl)] at h1
        simp at h1
        omega
      have g0 := (cell_of_row wr g 0 _ _ _ hG).trans rfl
      have gf : wr.frozen? ⟨g, 0, none⟩ = false := by simp [World.frozen?, hG]
      have gl : g < wr.heap.size := (Array.getElem?_eq_some_iff.1 hG).1
      have O := Asd.mk hO
      have G := Asd.mk hG
      have GE := Asd.mk hge
      clear hO hG hge
      go_wp2_with (at_builtin; refine wpList_append_mine (base := base) (own := base) (v := .slice A n d) (n := n) (m := 1) (ys := [.bool false, .int .i64 v, .string ⟨#[]⟩]) rfl (.tmp 16) (.tmp 19) 90 rfl elt_field rfl rfl (O.out.alloc _) (Rd.new_ rfl rfl) (field_one [⟨false, v, ⟨#[]⟩⟩]) (by unfold maxLen; omega) (by omega) (by simp; omega) ?_; intro v4 w4 O4' G4'; obtain ⟨A4, d4, rfl, _⟩ := Rd.of_own (base := base) O4'; have K4' := (((Kp.refl 94 base wr).alloc hbs2 (.cells #[.bool false, .int .i64 v, .string ⟨#[]⟩] 94)).trans (Kp.own (O.out.alloc _) G4' (by simp; omega))); have G4 := K4'.blk G.out (by decide); have g4 := (cell_of_row w4 g 0 _ _ _ G4).trans rfl; have gf4 : w4.frozen? ⟨g, 0, none⟩ = false := (by simp [World.frozen?, G4]); have O4 := Asd.mk O4'; have K4 := Asd.mk K4'; have G4a := Asd.mk G4; clear O4' G4' K4' G4)
      have eL : fieldCells (l ++ (ns.take q).map intF) ++ [.bool false, .int .i64 v, .string ⟨#[]⟩] = fieldCells (l ++ (ns.take (q + 1)).map intF) := by
        rw [TK.out]
        unfold fieldCells
        simp [FieldR.enc, intF]
      have hO := O4.out
      rw [eL] at hO
      obtain ⟨p1, p2⟩ := wr_put rfl G4a.out hO GE.out
      have P1 := Asd.mk p1
      have P2 := Asd.mk (KW.out.trans ((Kq.of_kp K4.out rfl).trans p2))
      clear p1 p2 hO eL g0 gf g4 gf4 c0
      go_roundw
      case measure => simp [intOf]; omega
      case rel => exact ⟨q + 1, by go_num, by omega, P1, P2⟩
    · obtain rfl : q = k := by omega
      have ha : ns.take q = ns := List.take_of_length_le (by rw [N.out]; omega)
      rw [ha] at WW
      clear ha
      go_wp2_with fail
      go_end0
      exact ⟨rfl, WW.out, KW.out⟩

set_option maxHeartbeats 4000000 in
set_option maxRecDepth 100000 in
theorem text_calls {base b2 : Nat} {w : World} {g : Nat} {l : List FieldR} (hw : Wr base w g l) (hl : l.length ≤ 100000) {P : Option Addr} {k c : Nat} {ns : List ByteArray} (hr : Rd base 9 w 1 P k c (ns.flatMap fun v => [.string v])) (hk : k ≤ 1000) (hbs : base ≤ w.heap.size) :
    Calls Tryz.prog 47 #[.pointer (some ⟨g, 0, none⟩), .slice P k c] w (WrPost base w g (l ++ ns.map txtF)) := by
  have hn : ns.length = k := hr.count (fun _ => rfl) (by omega)
  have R := Asd.mk hr
  have N := Asd.mk hn
  have W0 : Asd (Wr base w g (l ++ (ns.take 0).map txtF)) := ⟨by simpa using hw⟩
  clear hr hn hw
  go_enter Tryz.func47, Tryz.ntmps47
  go_wp2_with fail
  go_loopw [8] (fun s8 wr => ∃ q : Nat, s8 = .int .i64 q ∧ q ≤ k ∧ Asd (Wr base wr g (l ++ (ns.take q).map txtF)) ∧ Asd (Kq wrS base w wr)) (fun s8 _ => k - (intOf s8).toNat)
  case atStart => exact ⟨0, rfl, Nat.zero_le _, W0, ⟨Kq.refl _ _ _⟩⟩
  case round =>
    obtain ⟨q, rfl, hq, WW, KW⟩ := hrel
    by_cases hlt : q < k
    · obtain ⟨b, off, rfl, hbl, hil, hcs⟩ := (KW.out.rd R.out rfl).at_enc (enc := fun v : ByteArray => [.string v]) (fun _ => rfl) (by omega) hlt
      have hcap : q < c := Nat.lt_of_lt_of_le hlt R.out.cap
      have c0 := hcs 0 _ rfl
      rw [Nat.add_zero, Nat.mul_one] at c0
      have TK : Asd ((ns.take (q + 1)).map txtF = (ns.take q).map txtF ++ [txtF ns[q]]) := ⟨by rw [List.take_succ_eq_append_getElem hil, List.map_append]; rfl⟩
      generalize ns[q] = v at c0 TK
      clear hcs
      obtain ⟨⟨A, n, d, hG, hO⟩, hge⟩ := WW.out
      have hbs2 : base ≤ wr.heap.size := Nat.le_trans hbs KW.out.size
      have hll : n ≤ 110000 := by
        have h1 := hO.1
        unfold fieldCells at h1
        rw [flat_len FieldR.enc 3 (fun _ => rfl)] at h1
        simp at h1
        omega
      have g0 := (cell_of_row wr g 0 _ _ _ hG).trans rfl
      have gf : wr.frozen? ⟨g, 0, none⟩ = false := by simp [World.frozen?, hG]
      have gl : g < wr.heap.size := (Array.getElem?_eq_some_iff.1 hG).1
      have O := Asd.mk hO
      have G := Asd.mk hG
      have GE := Asd.mk hge
      clear hO hG hge
      go_wp2_with (at_builtin; refine wpList_append_mine (base := base) (own := base) (v := .slice A n d) (n := n) (m := 1) (ys := [.bool true, .int .i64 0, .string v]) rfl (.tmp 16) (.tmp 19) 90 rfl elt_field rfl rfl (O.out.alloc _) (Rd.new_ rfl rfl) (field_one [⟨true, 0, v⟩]) (by unfold maxLen; omega) (by omega) (by simp; omega) ?_; intro v4 w4 O4' G4'; obtain ⟨A4, d4, rfl, _⟩ := Rd.of_own (base := base) O4'; have K4' := (((Kp.refl 94 base wr).alloc hbs2 (.cells #[.bool true, .int .i64 0, .string v] 94)).trans (Kp.own (O.out.alloc _) G4' (by simp; omega))); have G4 := K4'.blk G.out (by decide); have g4 := (cell_of_row w4 g 0 _ _ _ G4).trans rfl; have gf4 : w4.frozen? ⟨g, 0, none⟩ = false := (by simp [World.frozen?, G4]); have O4 := Asd.mk O4'; have K4 := Asd.mk K4'; have G4a := Asd.mk G4; clear O4' G4' K4' G4)
      have eL : fieldCells (l ++ (ns.take q).map txtF) ++ [.bool true, .int .i64 0, .string v] = fieldCells (l ++ (ns.take (q + 1)).map txtF) := by
        rw [TK.out]
        unfold fieldCells
        simp [FieldR.enc, txtF]
      have hO := O4.out
      rw [eL] at hO
      obtain ⟨p1, p2⟩ := wr_put rfl G4a.out hO GE.out
      have P1 := Asd.mk p1
      have P2 := Asd.mk (KW.out.trans ((Kq.of_kp K4.out rfl).trans p2))
      clear p1 p2 hO eL g0 gf g4 gf4 c0
      go_roundw
      case measure => simp [intOf]; omega
      case rel => exact ⟨q + 1, by go_num, by omega, P1, P2⟩
    · obtain rfl : q = k := by omega
      have ha : ns.take q = ns := List.take_of_length_le (by rw [N.out]; omega)
      rw [ha] at WW
      clear ha
      go_wp2_with fail
      go_end0
      exact ⟨rfl, WW.out, KW.out⟩
theorem map_flat {α : Type} (f : α → Value) (l : List α) : l.map f = l.flatMap fun v => [f v] := by
  induction l with
  | nil => rfl
  | cons x l ih => rw [List.map_cons, List.flatMap_cons, ih]; rfl
theorem num_new {base : Nat} {w : World} {g : Nat} {l : List FieldR} (hw : Wr base w g l) (hl : l.length ≤ 100000) (hbs : base ≤ w.heap.size) (ns : List Int) (hk : ns.length ≤ 1000) :
    Calls Tryz.prog 46 #[.pointer (some ⟨g, 0, none⟩), .slice (some ⟨w.heap.size, 0, none⟩) ns.length ns.length] (w.alloc (.cells (ns.map fun v => (.int .i64 v : Value)).toArray 3)) (WrPost base w g (l ++ ns.map intF)) := by
  have hr : Rd base 3 (w.alloc (.cells (ns.map fun v => (.int .i64 v : Value)).toArray 3)) 1 (some ⟨w.heap.size, 0, none⟩) ns.length ns.length (ns.flatMap fun v => [(.int .i64 v : Value)]) := Rd.new_ (by rw [map_flat]) (by rw [← map_flat]; simp)
  refine (num_calls (b2 := 0) (hw.alloc _) hl hr hk (by simp; omega)).mono ?_
  rintro e w' ⟨h1, h2, h3⟩
  exact ⟨h1, h2, ((Kq.refl _ _ _).alloc hbs _).trans h3⟩
theorem text_new {base : Nat} {w : World} {g : Nat} {l : List FieldR} (hw : Wr base w g l) (hl : l.length ≤ 100000) (hbs : base ≤ w.heap.size) (ns : List ByteArray) (hk : ns.length ≤ 1000) :
    Calls Tryz.prog 47 #[.pointer (some ⟨g, 0, none⟩), .slice (some ⟨w.heap.size, 0, none⟩) ns.length ns.length] (w.alloc (.cells (ns.map fun v => (.string v : Value)).toArray 9)) (WrPost base w g (l ++ ns.map txtF)) := by
  have hr : Rd base 9 (w.alloc (.cells (ns.map fun v => (.string v : Value)).toArray 9)) 1 (some ⟨w.heap.size, 0, none⟩) ns.length ns.length (ns.flatMap fun v => [(.string v : Value)]) := Rd.new_ (by rw [map_flat]) (by rw [← map_flat]; simp)
  refine (text_calls (b2 := 0) (hw.alloc _) hl hr hk (by simp; omega)).mono ?_
  rintro e w' ⟨h1, h2, h3⟩
  exact ⟨h1, h2, ((Kq.refl _ _ _).alloc hbs _).trans h3⟩
end Go.Proofs.YtallnibjmffahaaGreatDoor

set_option linter.unusedVariables false
set_option linter.unusedSimpArgs false
namespace Go.Proofs.YtallnibjmffahaaGreatDoor
open Go.RowKit

def opF (x : OpR) : List FieldR := [intF x.kind, txtF x.key, txtF x.val, intF x.stamp, intF x.test, intF x.most]
def reqF (cl sq : Int) (ops : List OpR) : List FieldR := [intF cl, intF sq, intF ops.length] ++ ops.flatMap opF
/-- What Encode of a request answers. -/
def oencP (cl sq : Int) (ops : List OpR) : ByteArray × Int := if reqOk cl sq ops then encP (reqF cl sq ops) else (⟨#[]⟩, 80)
def goodF (f : FieldR) : Prop := f.good ∧ f.s.size ≤ 262144
theorem good_int {v : Int} (h0 : 0 ≤ v) (h1 : v < 9223372036854775808) : goodF (intF v) := ⟨.inl ⟨rfl, h0, h1, rfl⟩, by show (⟨#[]⟩ : ByteArray).size ≤ 262144; exact Nat.zero_le _⟩
theorem good_txt {s : ByteArray} (h : s.size ≤ 262144) : goodF (txtF s) := ⟨.inr ⟨rfl, rfl, by simp only [txtF]; omega⟩, h⟩
theorem opOk_good {x : OpR} (h : opOk x = true) : (1 ≤ x.kind ∧ x.kind ≤ 6) ∧ x.key.size ≤ 64 ∧ x.val.size ≤ 8192 ∧ (0 ≤ x.stamp ∧ x.stamp ≤ 1099511627776) ∧ (0 ≤ x.test ∧ x.test ≤ 1099511627776) ∧ (0 ≤ x.most ∧ x.most ≤ 100) := by
  unfold opOk keyOk numOk at h
  repeat' split at h
  all_goals
    simp only [Bool.and_eq_true, decide_eq_true_eq, Bool.false_eq_true] at h
  all_goals omega
theorem good_op {x : OpR} (h : opOk x = true) : ∀ f ∈ opF x, goodF f := by
  obtain ⟨h1, h2, h3, h4, h5, h6⟩ := opOk_good h
  intro f hf
  simp only [opF, List.mem_cons, List.not_mem_nil, or_false] at hf
  rcases hf with rfl | rfl | rfl | rfl | rfl | rfl
  · exact good_int (by omega) (by omega)
  · exact good_txt (by omega)
  · exact good_txt (by omega)
  · exact good_int (by omega) (by omega)
  · exact good_int (by omega) (by omega)
  · exact good_int (by omega) (by omega)
theorem reqOk_parts {cl sq : Int} {ops : List OpR} (h : reqOk cl sq ops = true) : (0 ≤ cl ∧ cl ≤ 1000) ∧ (1 ≤ sq ∧ sq ≤ 1048576) ∧ (1 ≤ ops.length ∧ ops.length ≤ 32) ∧ ∀ x ∈ ops, opOk x = true := by
  unfold reqOk at h
  simp only [Bool.and_eq_true, decide_eq_true_eq, Bool.not_eq_true', List.any_eq_false, Bool.not_eq_true, Bool.not_eq_false'] at h
  obtain ⟨⟨⟨h1, h2⟩, h3⟩, h4⟩ := h
  refine ⟨h1, h2, by omega, fun x hx => ?_⟩
  have := h4 x hx
  simpa using this
theorem good_req {cl sq : Int} {ops : List OpR} (h : reqOk cl sq ops = true) : ∀ f ∈ reqF cl sq ops, goodF f := by
  obtain ⟨h1, h2, h3, h4⟩ := reqOk_parts h
  intro f hf
  unfold reqF at hf
  rcases List.mem_append.1 hf with hf | hf
  · simp only [List.mem_cons, List.not_mem_nil, or_false] at hf
    rcases hf with rfl | rfl | rfl
    · exact good_int (by omega) (by omega)
    · exact good_int (by omega) (by omega)
    · exact good_int (by omega) (by omega)
  · obtain ⟨x, hx, hf⟩ := List.mem_flatMap.1 hf
    exact good_op (h4 x hx) f hf
theorem reqF_len (cl sq : Int) (ops : List OpR) : (reqF cl sq ops).length = 3 + ops.length * 6 := by
  unfold reqF
  rw [List.length_append]
  have : (ops.flatMap opF).length = ops.length * 6 := by
    induction ops with
    | nil => rfl
    | cons x l ih => rw [List.flatMap_cons, List.length_append, ih, List.length_cons]; simp [opF]; omega
  rw [this]
  simp
theorem reqF_take {cl sq : Int} {ops : List OpR} {k : Nat} (hk : k < ops.length) : [intF cl, intF sq, intF ops.length] ++ (ops.take (k + 1)).flatMap opF = ([intF cl, intF sq, intF ops.length] ++ (ops.take k).flatMap opF) ++ opF ops[k] := by
  rw [List.take_succ_eq_append_getElem hk, List.flatMap_append]
  simp
/-- A writer's fields as a slice. -/
theorem Wr.rd {base : Nat} {w : World} {g : Nat} {l : List FieldR} (h : Wr base w g l) : ∃ A n c, w.heap[g]? = some (.cells #[.slice A n c] 118 (0, 0)) ∧ Rd base 94 w 3 A n c (fieldCells l) := by
  obtain ⟨A, n, c, h1, h2⟩ := h.at_
  obtain ⟨A', c', e, hr⟩ := Rd.of_own (base := base) h2
  injection e with e1 _ e2
  subst e1 e2
  exact ⟨A, n, c, h1, hr⟩
theorem Wr.fresh (base : Nat) (w : World) (h : base ≤ w.heap.size) : Wr base (w.alloc (.cells #[.slice none 0 0] 118)) w.heap.size [] := ⟨⟨none, 0, 0, heap_alloc_new w _, World.ownsRow_nil _ _ _ _⟩, h⟩

set_option maxHeartbeats 8000000 in
set_option maxRecDepth 100000 in
theorem OpEncode_calls {base : Nat} {w : World} (cl sq : Int) {A : Option Addr} {n c : Nat} {ops : List OpR} (ho : Rd base 79 w 6 A n c (opCells ops)) (hf : ∀ x ∈ ops, Fits x) (hbig : n ≤ 140737488355328) (hbs : base ≤ w.heap.size) :
    Calls Tryz.prog 24 #[.agg #[.int .i64 cl, .int .i64 sq, .slice A n c]] w fun e w' => e = .returned (.tuple #[.string (oencP cl sq ops).1, .int .i64 (oencP cl sq ops).2]) ∧ Below w.heap.size w w' := by
  have hn := ho.count (enc := OpR.enc) (fun _ => rfl) (by omega)
  have hal : Below w.heap.size w (w.alloc (.cells #[.int .i64 cl, .int .i64 sq, .slice A n c] 46)) := (Below.refl _ _).alloc (Nat.le_refl _) _
  have CK := Asd.mk (CheckAll_calls cl sq (ho.below hal) hf hbig)
  have R := Asd.mk (fun W (h : Below w.heap.size w W) => ho.below h)
  have N := Asd.mk hn
  have B1 := Asd.mk hal
  have H1 := Asd.mk (heap_alloc_new w (.cells #[.int .i64 cl, .int .i64 sq, .slice A n c] 46))
  clear ho hf hn hal
  cases hr : reqOk cl sq ops with
  | false =>
    have EP : Asd (oencP cl sq ops = (⟨#[]⟩, 80)) := ⟨by unfold oencP; rw [hr]; rfl⟩
    rw [hr] at CK
    simp only [Bool.false_eq_true, if_false] at CK
    clear hr
    go_enter Tryz.func24, Tryz.ntmps24
    go_upto_region 1 with fail
    generalize w.alloc (.cells #[.int .i64 cl, .int .i64 sq, .slice A n c] 46) = w1 at CK B1 H1 ⊢
    have y0 := (cell_of_row w1 w.heap.size 0 _ _ _ H1.out).trans rfl
    have y1 := (cell_of_row w1 w.heap.size 1 _ _ _ H1.out).trans rfl
    have y2 := (cell_of_row w1 w.heap.size 2 _ _ _ H1.out).trans rfl
    go_wp2_with fail
    refine CK.out.mono ?_
    rintro e w2 ⟨rfl, hb2⟩
    have B2 := Asd.mk (B1.out.trans (hb2.mono B1.out.size))
    clear hb2
    go_wp2_with fail
    go_ret2
    exact ⟨by rw [EP.out]; rfl, B2.out⟩
  | true =>
    have EP : Asd (oencP cl sq ops = encP (reqF cl sq ops)) := ⟨by unfold oencP; rw [hr]; rfl⟩
    have GR := Asd.mk (good_req hr)
    have h32 := (reqOk_parts hr).2.2.1.2
    rw [hr] at CK
    simp only [if_true] at CK
    clear hr
    have hn32 : n ≤ 32 := by rw [← N.out]; exact h32
    clear h32
    go_enter Tryz.func24, Tryz.ntmps24
    go_upto_region 1 with fail
    generalize w.alloc (.cells #[.int .i64 cl, .int .i64 sq, .slice A n c] 46) = w1 at CK B1 H1 ⊢
    have y0 := (cell_of_row w1 w.heap.size 0 _ _ _ H1.out).trans rfl
    have y1 := (cell_of_row w1 w.heap.size 1 _ _ _ H1.out).trans rfl
    have y2 := (cell_of_row w1 w.heap.size 2 _ _ _ H1.out).trans rfl
    go_wp2_with fail
    refine CK.out.mono ?_
    rintro e w2 ⟨rfl, hb2⟩
    have B2 := Asd.mk (B1.out.trans (hb2.mono B1.out.size))
    have H2 := Asd.mk ((hb2.block _ (Array.getElem?_eq_some_iff.1 H1.out).1).trans H1.out)
    clear hb2 y0 y1 y2 CK H1
    go_upto_region 5 with fail
    have hz2 : w.heap.size ≤ w2.heap.size := B2.out.size
    have W3 := Asd.mk (Wr.fresh w.heap.size w2 hz2)
    have B3 := Asd.mk (B2.out.alloc hz2 (.cells #[.slice none 0 0] 118))
    have H3 := Asd.mk (((Below.refl w2.heap.size w2).alloc (Nat.le_refl _) (.cells #[.slice none 0 0] 118)).block _ (Array.getElem?_eq_some_iff.1 H2.out).1 |>.trans H2.out)
    have hz3 : w.heap.size ≤ (w2.alloc (.cells #[.slice none 0 0] 118)).heap.size := B3.out.size
    obtain ⟨g, hg⟩ : ∃ g, g = w2.heap.size := ⟨_, rfl⟩
    rw [← hg] at W3 ⊢
    generalize w2.alloc (.cells #[.slice none 0 0] 118) = w3 at W3 B3 H3 hz3 ⊢
    clear hg H2 B2 hz2 B1
    have y0 := (cell_of_row w3 w.heap.size 0 _ _ _ H3.out).trans rfl
    have y1 := (cell_of_row w3 w.heap.size 1 _ _ _ H3.out).trans rfl
    have y2 := (cell_of_row w3 w.heap.size 2 _ _ _ H3.out).trans rfl
    have NC := Asd.mk (num_new W3.out (by simp) hz3 [cl, sq, (n : Int)] (by simp))
    go_wp2_with fail
    refine NC.out.mono ?_
    rintro e w4 ⟨rfl, hw4, hk4⟩
    have W4 : Asd (Wr w.heap.size w4 g ([intF cl, intF sq, intF ops.length] ++ (ops.take 0).flatMap opF)) := ⟨by rw [N.out]; simpa using hw4⟩
    have K4 : Asd (Kq wrS w.heap.size w3 w4) := ⟨hk4⟩
    clear hw4 hk4 NC W3 y0 y1 y2
    have H4 := Asd.mk (K4.out.blk H3.out rfl)
    have y2 := (cell_of_row w4 w.heap.size 2 _ _ _ H4.out).trans rfl
    go_wp2_with fail
    go_loopw [28] (fun s28 wr => ∃ q : Nat, s28 = .int .i64 q ∧ q ≤ n ∧ Asd (Wr w.heap.size wr g ([intF cl, intF sq, intF ops.length] ++ (ops.take q).flatMap opF)) ∧ Asd (Kq wrS w.heap.size w3 wr)) (fun s28 _ => n - (intOf s28).toNat)
    case atStart => exact ⟨0, rfl, Nat.zero_le _, W4, K4⟩
    case round =>
      obtain ⟨q, rfl, hq, WW, KW⟩ := hrel
      clear W4 K4 H4 y2
      have hzr : w.heap.size ≤ wr.heap.size := Nat.le_trans hz3 KW.out.size
      by_cases hlt : q < n
      · obtain ⟨b, off, rfl, hbl, hil, hcs⟩ := (R.out wr (B3.out.trans KW.out.below)).at_enc (enc := OpR.enc) (fun _ => rfl) (by omega) hlt
        have hcap : q < c := Nat.lt_of_lt_of_le hlt (R.out wr (B3.out.trans KW.out.below)).cap
        have TK := Asd.mk (reqF_take (cl := cl) (sq := sq) hil)
        have hll : Asd ((([intF cl, intF sq, intF ops.length] ++ (ops.take q).flatMap opF) : List FieldR).length ≤ 1000) := ⟨by
          have h1 := reqF_len cl sq (ops.take q)
          unfold reqF at h1
          simp only [List.length_append, List.length_cons, List.length_nil, List.length_take] at h1 ⊢
          omega⟩
        generalize ops[q] = x at hcs TK
        obtain ⟨xk, xkey, xval, xs, xt, xm⟩ := x
        have c0 := hcs 0 _ rfl
        have c1 := hcs 1 _ rfl
        have c2 := hcs 2 _ rfl
        have c3 := hcs 3 _ rfl
        have c4 := hcs 4 _ rfl
        have c5 := hcs 5 _ rfl
        rw [Nat.add_zero] at c0
        clear hcs
        have al := fun o => KW.out.alloc hzr o
        have W0 := Asd.mk (WW.out.alloc (.cells #[.int .i64 xk, .string xkey, .string xval, .int .i64 xs, .int .i64 xt, .int .i64 xm] 79))
        have K0 := Asd.mk (KW.out.alloc hzr (.cells #[.int .i64 xk, .string xkey, .string xval, .int .i64 xs, .int .i64 xt, .int .i64 xm] 79))
        have X0 := Asd.mk (heap_alloc_new wr (.cells #[.int .i64 xk, .string xkey, .string xval, .int .i64 xs, .int .i64 xt, .int .i64 xm] 79))
        clear al
        go_upto_region 9 with fail
        have hz5 : w.heap.size ≤ (wr.alloc (.cells #[.int .i64 xk, .string xkey, .string xval, .int .i64 xs, .int .i64 xt, .int .i64 xm] 79)).heap.size := by simp; omega
        obtain ⟨xb, hxb⟩ : ∃ xb, xb = wr.heap.size := ⟨_, rfl⟩
        rw [← hxb] at X0 ⊢
        generalize wr.alloc (.cells #[.int .i64 xk, .string xkey, .string xval, .int .i64 xs, .int .i64 xt, .int .i64 xm] 79) = w5 at W0 K0 X0 hz5 ⊢
        clear hxb c0 c1 c2 c3 c4 c5 WW KW hzr hbl
        have x0 := (cell_of_row w5 xb 0 _ _ _ X0.out).trans rfl
        have NC := Asd.mk (num_new W0.out (by have := hll.out; omega) hz5 [xk] (by simp))
        go_wp2_with fail
        refine NC.out.mono ?_
        rintro e w6 ⟨rfl, hw6, hk6⟩
        have W6 := Asd.mk hw6
        have K6 := Asd.mk (K0.out.trans hk6)
        have X6 := Asd.mk (hk6.blk X0.out rfl)
        have hz6 : w.heap.size ≤ w6.heap.size := Nat.le_trans hz5 hk6.size
        clear hw6 hk6 x0 NC W0 K0 X0 hz5
        have x1 := (cell_of_row w6 xb 1 _ _ _ X6.out).trans rfl
        have x2 := (cell_of_row w6 xb 2 _ _ _ X6.out).trans rfl
        have NC := Asd.mk (text_new W6.out (by have := hll.out; simp only [List.length_append, List.length_map, List.length_cons, List.length_nil] at this ⊢; omega) hz6 [xkey, xval] (by simp))
        go_wp2_with fail
        refine NC.out.mono ?_
        rintro e w7 ⟨rfl, hw7, hk7⟩
        have W7 := Asd.mk hw7
        have K7 := Asd.mk (K6.out.trans hk7)
        have X7 := Asd.mk (hk7.blk X6.out rfl)
        have hz7 : w.heap.size ≤ w7.heap.size := Nat.le_trans hz6 hk7.size
        clear hw7 hk7 x1 x2 NC W6 K6 X6 hz6
        have x3 := (cell_of_row w7 xb 3 _ _ _ X7.out).trans rfl
        have x4 := (cell_of_row w7 xb 4 _ _ _ X7.out).trans rfl
        have x5 := (cell_of_row w7 xb 5 _ _ _ X7.out).trans rfl
        have NC := Asd.mk (num_new W7.out (by have := hll.out; simp only [List.length_append, List.length_map, List.length_cons, List.length_nil] at this ⊢; omega) hz7 [xs, xt, xm] (by simp))
        go_wp2_with fail
        refine NC.out.mono ?_
        rintro e w8 ⟨rfl, hw8, hk8⟩
        have W8 : Asd (Wr w.heap.size w8 g ([intF cl, intF sq, intF ops.length] ++ (ops.take (q + 1)).flatMap opF)) := ⟨by rw [TK.out]; simpa [opF] using hw8⟩
        have K8 := Asd.mk (K7.out.trans hk8)
        clear hw8 hk8 x3 x4 x5 NC W7 K7 X7 hz7
        go_wp2_with fail
        go_roundw
        case measure => simp [intOf]; omega
        case rel => exact ⟨q + 1, by go_num, by omega, W8, K8⟩
      · obtain rfl : q = n := by omega
        have ha : ops.take q = ops := List.take_of_length_le (by rw [N.out]; omega)
        rw [ha] at WW
        obtain ⟨A', n', c', hA, hA2⟩ := WW.out.rd
        have g0 := (cell_of_row wr g 0 _ _ _ hA).trans rfl
        have gl : g < wr.heap.size := (Array.getElem?_eq_some_iff.1 hA).1
        have EC := Asd.mk (Encode_calls hA2 (fun f hf => (GR.out f hf).1) hzr)
        have BW := Asd.mk (B3.out.trans KW.out.below)
        clear ha hA hA2
        go_wp2_with fail
        refine EC.out.mono ?_
        rintro e w5 ⟨rfl, hb5⟩
        have B5 := Asd.mk (BW.out.trans (hb5.mono hzr))
        clear hb5
        go_wp2_with fail
        go_ret2
        exact ⟨by rw [EP.out]; rfl, B5.out⟩
end Go.Proofs.YtallnibjmffahaaGreatDoor

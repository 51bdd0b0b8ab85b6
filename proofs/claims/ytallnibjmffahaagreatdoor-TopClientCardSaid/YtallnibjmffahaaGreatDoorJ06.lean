/- One operation of a table. One operation of a table. One operation of a table: the kinds that write. One operation of a table: all kinds. Do: what it does, in plain Lean; lists of results in memory. -/
import Derived.Test.YtallnibjmffahaaGreatDoorJ05
set_option linter.unusedVariables false
set_option linter.unusedSimpArgs false
namespace Go.Proofs.YtallnibjmffahaaGreatDoor
open Go.RowKit

set_option maxHeartbeats 4000000 in
set_option maxRecDepth 100000 in
theorem one6b_calls {base g c : Nat} {w : World} {l : List Rw} {A : Option Addr} (h : Tab base w g l A c) (x : OpR) (hmin0 : ¬ x.most.toNat ≤ l.length - pos x.key l) (hci0 : c = pos x.key l) (hv : x.val.size ≤ 9223372036854775807) (h6 : x.kind = 6) (hm : x.kind = 6 → 1 ≤ x.most ∧ x.most ≤ 100) :
    Calls Tryz.prog 58 #[.pointer (some ⟨g, 0, none⟩), .agg x.enc.toArray] w (OnePost base w A g (oneP l x)) := by
  obtain ⟨kind, key, val, stamp, test, most⟩ := x
  simp only at hv hm h6 hmin0 hci0
  generalize hp : oneP l ⟨kind, key, val, stamp, test, most⟩ = p
  have P := Asd.mk hp
  clear hp
  unfold OpR.enc at *
  have H := Asd.mk h
  have hat := fun (W : World) (hb : Below w.heap.size w W) => at_calls (h.below hb) key
  have AT := Asd.mk hat
  have hgl := h.lt
  clear h hat
  subst h6
  obtain ⟨hm1, hm2⟩ := hm rfl
  clear hm
  have hpl := pos_le key l
  have hcl := H.out.rd.cap
  have hl4 := H.out.big
  obtain ⟨mn, rfl⟩ : ∃ mn : Nat, most = mn := ⟨most.toNat, by omega⟩
  have hw1 : IntKind.i64.wrap ((l.length : Int) - (pos key l : Int)) = ((l.length - pos key l : Nat) : Int) := by
    rw [IntWalk.i64_in _ (by omega)]; omega
  have HW := Asd.mk hw1
  clear hw1
  have hmin : ¬ mn ≤ l.length - pos key l := by simpa using hmin0
  have hci : c = pos key l := hci0
  clear hmin0 hci0
  have hrows : (oneP l ⟨6, key, val, stamp, test, (mn : Int)⟩) = (l, ⟨0, 0, ⟨#[]⟩, (l.drop (pos key l)).take (l.length - pos key l)⟩) := by
    have : (min (mn : Int) ((l.length : Int) - (pos key l : Int))).toNat = (l.length - pos key l) := by omega
    simp [oneP, this]
  have hcl := fun (W : World) (hb : Below w.heap.size w W) => Clone_row (base := base) W _ _ _ _ ((H.out.below hb).rd.cut (lo := pos key l) (hi := l.length) (c' := c) (by omega) (by omega) (by omega) (Nat.le_refl _)) (by
    rw [show (rowCells l).drop (pos key l * 3) = rowCells (l.drop (pos key l)) from flat_drop Rw.enc 3 (fun _ => rfl) l _, show (rowCells (l.drop (pos key l))).take _ = rowCells _ from flat_take Rw.enc 3 (fun _ => rfl) _ _]
    exact row_one _) (by omega)
  rw [show (rowCells l).drop (pos key l * 3) = rowCells (l.drop (pos key l)) from flat_drop Rw.enc 3 (fun _ => rfl) l _, show (rowCells (l.drop (pos key l))).take _ = rowCells _ from flat_take Rw.enc 3 (fun _ => rfl) _ _, if_pos hci, show c - pos key l = 0 by omega] at hcl
  have CL := Asd.mk hcl
  have RW := Asd.mk hrows
  clear hcl hrows
  have hle : pos key l = l.length := by omega
  have hce : c = l.length := by omega
  have hm0 : (0 : Int) < (mn : Int) := by omega
  have hm0' : 0 < mn := by omega
  have hw0 : IntKind.i64.wrap (l.length : Int) = (l.length : Int) := IntWalk.i64_in _ (by omega)
  have hz : IntKind.i64.wrap 0 = 0 := rfl
  have hAT := AT.out
  have hCL := CL.out
  have hRW := RW.out
  simp only [hle, Nat.sub_self] at hAT hCL hRW
  clear RW
  have RW := Asd.mk hRW
  clear hRW
  have AT2 := Asd.mk hAT
  have CL2 := Asd.mk hCL
  have HLE := Asd.mk hle
  clear hl4 hpl hAT hCL hle hmin hci AT CL HW
  subst hce
  go_enter Tryz.func58, Tryz.ntmps58
  go_wp2_with fail
  refine (AT2.out _ (((Below.refl _ _).alloc (Nat.le_refl _) _).alloc (by simp) _)).mono ?_
  rintro e w1 ⟨rfl, hb1⟩
  obtain ⟨hc1, hf1⟩ := bcell hb1
  have hs1 : w.heap.size + 1 < w1.heap.size := by have := hb1.size; simp at this; omega
  have hB : Below w.heap.size w w1 := (((Below.refl _ _).alloc (Nat.le_refl _) _).alloc (by simp) _).trans (hb1.mono (by simp; omega))
  have hres : IsT w1 (w.heap.size + 1) 81 := ⟨_, _, (hb1.block _ (by simp)).trans (by simpa using heap_alloc_new (w.alloc _) _)⟩
  have RES := Asd.mk hres
  clear hres
  have TB := Asd.mk (H.out.below hB)
  have hcg := TB.out.cell
  have BB := Asd.mk hB
  clear hB hb1
  go_wp2_with fail
  go_region_with (go_at_call 73; refine (CL2.out _ BB.out.drew).mono ?_; rintro e w2 ⟨A2, c2, rfl, h1, h2, h3⟩; obtain ⟨hc2, hf2⟩ := bcell (W := w1) (w1 := w2) ⟨h3.os, h3.tape, h3.output, h3.size, h3.block⟩; have hs2 : w.heap.size + 1 < w2.heap.size := (by have := h3.size; simp at this; omega); have F := Asd.mk (And.intro h1 (And.intro h2 h3)); clear h1 h2 h3)
  all_goals
    go_wp2
    refine bodyPost_ret (v := Res.raw ⟨0, 0, ⟨#[]⟩, []⟩ A2 0 c2) (by simp [results, Tryz.results58, go_sem, Res.raw, hc1, hc2, hs1, hs2]) rfl ?_
    rw [← P.out, RW.out]
    obtain ⟨q1, q2, q3⟩ := F.out
    have q4 : Below w1.heap.size w1 w2 := ⟨q3.os, q3.tape, q3.output, q3.size, q3.block⟩
    have hr2 := RES.out.of_block (q4.block _ hs1)
    have hbr : base ≤ w.heap.size + 1 := by have := H.out.ge; omega
    have hB2 := BB.out.trans (q4.mono (by omega))
    refine ⟨A2, _, c2, rfl, ?_, ⟨A, _, (H.out.below hB2).set4 hr2 (by decide) (by decide) hbr _ _ _ _, .inl rfl, .inr rfl⟩, q1.set4 hr2 (by decide) hbr _ _ _ _, own_set4 (own_le q2 (by have := BB.out.size; simpa using this)) hr2 (by decide) _ _ _ _⟩
    exact gb_set (gb_set (gb_set (gb_set (gb_below hB2 _) (by simp) _) (by simp) _) (by simp) _) (by simp) _

end Go.Proofs.YtallnibjmffahaaGreatDoor

set_option linter.unusedVariables false
set_option linter.unusedSimpArgs false
namespace Go.Proofs.YtallnibjmffahaaGreatDoor
open Go.RowKit

set_option maxHeartbeats 4000000 in
set_option maxRecDepth 100000 in
theorem one6c_calls {base g c : Nat} {w : World} {l : List Rw} {A : Option Addr} (h : Tab base w g l A c) (x : OpR) (hmin0 : ¬ x.most.toNat ≤ l.length - pos x.key l) (hci0 : ¬ c = pos x.key l) (hv : x.val.size ≤ 9223372036854775807) (h6 : x.kind = 6) (hm : x.kind = 6 → 1 ≤ x.most ∧ x.most ≤ 100) :
    Calls Tryz.prog 58 #[.pointer (some ⟨g, 0, none⟩), .agg x.enc.toArray] w (OnePost base w A g (oneP l x)) := by
  obtain ⟨kind, key, val, stamp, test, most⟩ := x
  simp only at hv hm h6 hmin0 hci0
  generalize hp : oneP l ⟨kind, key, val, stamp, test, most⟩ = p
  have P := Asd.mk hp
  clear hp
  unfold OpR.enc at *
  have H := Asd.mk h
  have hat := fun (W : World) (hb : Below w.heap.size w W) => at_calls (h.below hb) key
  have AT := Asd.mk hat
  have hgl := h.lt
  clear h hat
  subst h6
  obtain ⟨hm1, hm2⟩ := hm rfl
  clear hm
  have hpl := pos_le key l
  have hcl := H.out.rd.cap
  have hl4 := H.out.big
  obtain ⟨mn, rfl⟩ : ∃ mn : Nat, most = mn := ⟨most.toNat, by omega⟩
  have hw1 : IntKind.i64.wrap ((l.length : Int) - (pos key l : Int)) = ((l.length - pos key l : Nat) : Int) := by
    rw [IntWalk.i64_in _ (by omega)]; omega
  have HW := Asd.mk hw1
  clear hw1
  have hmin : ¬ mn ≤ l.length - pos key l := by simpa using hmin0
  have hci : ¬ c = pos key l := hci0
  have hrows : (oneP l ⟨6, key, val, stamp, test, (mn : Int)⟩) = (l, ⟨0, 0, ⟨#[]⟩, (l.drop (pos key l)).take (l.length - pos key l)⟩) := by
    have : (min (mn : Int) ((l.length : Int) - (pos key l : Int))).toNat = (l.length - pos key l) := by omega
    simp [oneP, this]
  have hcl := fun (W : World) (hb : Below w.heap.size w W) => Clone_row (base := base) W _ _ _ _ ((H.out.below hb).rd.cut (lo := pos key l) (hi := l.length) (c' := c) (by omega) (by omega) (by omega) (Nat.le_refl _)) (by
    rw [show (rowCells l).drop (pos key l * 3) = rowCells (l.drop (pos key l)) from flat_drop Rw.enc 3 (fun _ => rfl) l _, show (rowCells (l.drop (pos key l))).take _ = rowCells _ from flat_take Rw.enc 3 (fun _ => rfl) _ _]
    exact row_one _) (by omega)
  rw [show (rowCells l).drop (pos key l * 3) = rowCells (l.drop (pos key l)) from flat_drop Rw.enc 3 (fun _ => rfl) l _, show (rowCells (l.drop (pos key l))).take _ = rowCells _ from flat_take Rw.enc 3 (fun _ => rfl) _ _, if_neg hci] at hcl
  have CL := Asd.mk hcl
  have RW := Asd.mk hrows
  clear hcl hrows
  have hmin' : l.length - pos key l < mn := by omega
  have hw2 : IntKind.i64.wrap ((pos key l : Int) + ((l.length - pos key l : Nat) : Int)) = (l.length : Int) := by
    rw [IntWalk.i64_in _ (by omega)]; omega
  have hi2 : (l.length : Int) ≤ (c : Int) := by omega
  clear hl4
  have hw1 := HW.out
  go_enter Tryz.func58, Tryz.ntmps58
  go_wp2_with fail
  refine (AT.out _ (((Below.refl _ _).alloc (Nat.le_refl _) _).alloc (by simp) _)).mono ?_
  rintro e w1 ⟨rfl, hb1⟩
  obtain ⟨hc1, hf1⟩ := bcell hb1
  have hs1 : w.heap.size + 1 < w1.heap.size := by have := hb1.size; simp at this; omega
  have hB : Below w.heap.size w w1 := (((Below.refl _ _).alloc (Nat.le_refl _) _).alloc (by simp) _).trans (hb1.mono (by simp; omega))
  have hres : IsT w1 (w.heap.size + 1) 81 := ⟨_, _, (hb1.block _ (by simp)).trans (by simpa using heap_alloc_new (w.alloc _) _)⟩
  have RES := Asd.mk hres
  clear hres
  have TB := Asd.mk (H.out.below hB)
  have hcg := TB.out.cell
  have BB := Asd.mk hB
  clear hB hb1
  go_wp2_with fail
  go_region_with (go_at_call 73; refine (CL.out _ BB.out.drew).mono ?_; rintro e w2 ⟨A2, c2, rfl, h1, h2, h3⟩; obtain ⟨hc2, hf2⟩ := bcell (W := w1) (w1 := w2) ⟨h3.os, h3.tape, h3.output, h3.size, h3.block⟩; have hs2 : w.heap.size + 1 < w2.heap.size := (by have := h3.size; simp at this; omega); have F := Asd.mk (And.intro h1 (And.intro h2 h3)); clear h1 h2 h3)
  all_goals
    go_wp2
    refine bodyPost_ret (v := Res.raw ⟨0, 0, ⟨#[]⟩, []⟩ A2 (l.length - pos key l) c2) (by simp [results, Tryz.results58, go_sem, Res.raw, hc1, hc2, hs1, hs2]) rfl ?_
    rw [← P.out, RW.out]
    obtain ⟨q1, q2, q3⟩ := F.out
    have q4 : Below w1.heap.size w1 w2 := ⟨q3.os, q3.tape, q3.output, q3.size, q3.block⟩
    have hr2 := RES.out.of_block (q4.block _ hs1)
    have hbr : base ≤ w.heap.size + 1 := by have := H.out.ge; omega
    have hB2 := BB.out.trans (q4.mono (by omega))
    refine ⟨A2, _, c2, rfl, ?_, ⟨A, _, (H.out.below hB2).set4 hr2 (by decide) (by decide) hbr _ _ _ _, .inl rfl, .inr rfl⟩, q1.set4 hr2 (by decide) hbr _ _ _ _, own_set4 (own_le q2 (by have := BB.out.size; simpa using this)) hr2 (by decide) _ _ _ _⟩
    exact gb_set (gb_set (gb_set (gb_set (gb_below hB2 _) (by simp) _) (by simp) _) (by simp) _) (by simp) _


end Go.Proofs.YtallnibjmffahaaGreatDoor

set_option linter.unusedVariables false
set_option linter.unusedSimpArgs false
namespace Go.Proofs.YtallnibjmffahaaGreatDoor
open Go.RowKit

set_option maxHeartbeats 4000000 in
set_option maxRecDepth 100000 in
theorem onew_calls {base g c : Nat} {w : World} {l : List Rw} {A : Option Addr} (h : Tab base w g l A c) (x : OpR) (hv : x.val.size ≤ 9223372036854775807) (h4 : x.kind ≠ 4) (h5 : x.kind ≠ 5) (h6 : x.kind ≠ 6) :
    Calls Tryz.prog 58 #[.pointer (some ⟨g, 0, none⟩), .agg x.enc.toArray] w (OnePost base w A g (oneP l x)) := by
  obtain ⟨kind, key, val, stamp, test, most⟩ := x
  simp only at hv h4 h5 h6
  generalize hp : oneP l ⟨kind, key, val, stamp, test, most⟩ = p
  have P := Asd.mk hp
  clear hp
  have hwr := fun (W : World) (hb : Below w.heap.size w W) => write_calls (h.below hb) ⟨kind, key, val, stamp, test, most⟩ hv
  have WR := Asd.mk hwr
  clear hwr
  unfold OpR.enc at *
  have H := Asd.mk h
  have hat := fun (W : World) (hb : Below w.heap.size w W) => at_calls (h.below hb) key
  have AT := Asd.mk hat
  have hgl := h.lt
  clear h hat
  have hone : oneP l ⟨kind, key, val, stamp, test, most⟩ = writeP l ⟨kind, key, val, stamp, test, most⟩ := by simp [oneP, h4, h5, h6]
  rw [hone] at P
  have RO := Asd.mk (show (writeP l ⟨kind, key, val, stamp, test, most⟩).2.rows = [] by unfold writeP; dsimp only; repeat (first | rfl | split))
  rw [P.out] at RO
  clear hone
  have k4 : (kind == 4) = false := by simpa using h4
  have k5 : (kind == 5) = false := by simpa using h5
  have k6 : (kind == 6) = false := by simpa using h6
  have PW := Asd.mk (P.out)
  rw [P.out] at WR
  clear P
  go_enter Tryz.func58, Tryz.ntmps58
  go_wp2_with fail
  refine (AT.out _ (((Below.refl _ _).alloc (Nat.le_refl _) _).alloc (by simp) _)).mono ?_
  rintro e w1 ⟨rfl, hb1⟩
  obtain ⟨hc1, hf1⟩ := bcell hb1
  have hs1 : w.heap.size + 1 < w1.heap.size := by have := hb1.size; simp at this; omega
  have hs0 : w.heap.size < w1.heap.size := by omega
  have hB : Below w.heap.size w w1 := (((Below.refl _ _).alloc (Nat.le_refl _) _).alloc (by simp) _).trans (hb1.mono (by simp; omega))
  have hres : IsT w1 (w.heap.size + 1) 81 := ⟨_, _, (hb1.block _ (by simp)).trans (by simpa using heap_alloc_new (w.alloc _) _)⟩
  have RES := Asd.mk hres
  clear hres
  have BB := Asd.mk hB
  clear hB hb1
  go_wp2_with fail
  refine (WR.out _ BB.out).mono ?_
  rintro e w3 ⟨rfl, hg3, hT3⟩
  have hn1 : w.heap.size ≠ g := by omega
  have hn2 : w.heap.size + 1 ≠ g := by omega
  have hblk : ∀ b, b < w1.heap.size → b ≠ g → w3.heap[b]? = w1.heap[b]? := fun b hb hne => hg3.block b hb (by simpa using hne)
  have hc3 : ∀ b o, b < w1.heap.size → b ≠ g → w3.cell? ⟨b, o, none⟩ = w1.cell? ⟨b, o, none⟩ := fun b o hb hne => World.cell?_of_block (w := w1) (hblk b hb hne)
  have hf3 : ∀ b o, b < w1.heap.size → b ≠ g → w3.frozen? ⟨b, o, none⟩ = w1.frozen? ⟨b, o, none⟩ := fun b o hb hne => World.frozen?_of_block (w := w1) (hblk b hb hne)
  have hs3 : w.heap.size + 1 < w3.heap.size := by have := hg3.size; omega
  have RE3 := Asd.mk (RES.out.of_block (hblk _ hs1 hn2))
  have G3 := Asd.mk (gb_trans (gb_below BB.out _) hg3)
  have T3 := Asd.mk hT3
  clear hg3 hT3 hblk
  obtain ⟨l', code, st, v, rows⟩ := p
  obtain rfl : rows = [] := RO.out
  unfold Res.flat
  go_wp2_with fail
  refine bodyPost_ret (v := Res.flat ⟨code, st, v, []⟩) (by simp [results, Tryz.results58, go_sem, Res.flat, hc1, hc3, hs0, hs1, hs3, hn1, hn2]) rfl ?_
  obtain ⟨A3, c3, T4, fr4⟩ := T3.out
  refine OnePost.flat rfl rfl ?_ ⟨A3, c3, ?_, Fr.mono fr4 (by have := BB.out.size; omega)⟩
  · repeat (first | exact G3.out | refine gb_set ?_ (by simp) _)
  · exact Tab.set4 T4 RE3.out (by decide) (by decide) (by have := H.out.ge; omega) _ _ _ _

end Go.Proofs.YtallnibjmffahaaGreatDoor

set_option linter.unusedVariables false
set_option linter.unusedSimpArgs false
namespace Go.Proofs.YtallnibjmffahaaGreatDoor
open Go.RowKit

theorem one_calls {base g c : Nat} {w : World} {l : List Rw} {A : Option Addr} (h : Tab base w g l A c) (x : OpR) (hv : x.val.size ≤ 9223372036854775807) (hm : x.kind = 6 → 1 ≤ x.most ∧ x.most ≤ 100) :
    Calls Tryz.prog 58 #[.pointer (some ⟨g, 0, none⟩), .agg x.enc.toArray] w (OnePost base w A g (oneP l x)) := by
  by_cases h6 : x.kind = 6
  · by_cases hmin : x.most.toNat ≤ l.length - pos x.key l
    · exact one6a_calls h x hmin hv h6 hm
    · by_cases hci : c = pos x.key l
      · exact one6b_calls h x hmin hci hv h6 hm
      · exact one6c_calls h x hmin hci hv h6 hm
  · by_cases h5 : x.kind = 5
    · exact one5_calls h x hv h5
    · by_cases h4 : x.kind = 4
      · exact one4_calls h x hv h4
      · exact onew_calls h x hv h4 h5 h6

end Go.Proofs.YtallnibjmffahaaGreatDoor

set_option linter.unusedVariables false
set_option linter.unusedSimpArgs false
namespace Go.Proofs.YtallnibjmffahaaGreatDoor
open Go.RowKit

def stP : List Rw → List OpR → List Rw
  | l, [] => l
  | l, x :: xs => stP (oneP l x).1 xs
def reP : List Rw → List OpR → List Res
  | _, [] => []
  | l, x :: xs => (oneP l x).2 :: reP (oneP l x).1 xs
theorem stP_snoc (l : List Rw) (xs : List OpR) (x : OpR) : stP l (xs ++ [x]) = (oneP (stP l xs) x).1 := by
  induction xs generalizing l with
  | nil => rfl
  | cons y ys ih => exact ih _
theorem reP_snoc (l : List Rw) (xs : List OpR) (x : OpR) : reP l (xs ++ [x]) = reP l xs ++ [(oneP (stP l xs) x).2] := by
  induction xs generalizing l with
  | nil => rfl
  | cons y ys ih => simp only [List.cons_append, reP, stP, ih]
theorem reP_len (l : List Rw) (xs : List OpR) : (reP l xs).length = xs.length := by
  induction xs generalizing l with
  | nil => rfl
  | cons y ys ih => simp [reP, ih]
theorem stP_sorted {l : List Rw} (h : Sorted l) (xs : List OpR) : Sorted (stP l xs) := by
  induction xs generalizing l with
  | nil => exact h
  | cons y ys ih => exact ih (oneP_sorted h y)
theorem stP_len {l : List Rw} (h : Sorted l) (hl : l.length ≤ 4096) (xs : List OpR) : (stP l xs).length ≤ 4096 := by
  induction xs generalizing l with
  | nil => exact hl
  | cons y ys ih => exact ih (oneP_sorted h y) (oneP_len h hl y)
theorem reP_take (l : List Rw) (xs : List OpR) (k : Nat) : reP l (xs.take k) = (reP l xs).take k := by
  induction xs generalizing l k with
  | nil => simp [reP]
  | cons y ys ih =>
    cases k with
    | zero => simp [reP]
    | succ k => simp [reP, ih]

/-- What Do does: the rows behind it, the results, the fault. -/
structure DoR where
  rows : List Rw
  res : List Res
  at_ : Int
  code : Int
def failed (r : Res) : Bool := decide (r.code ≠ 0)
def doP (l : List Rw) (ops : List OpR) : DoR :=
  if ops.length < 1 ∨ 32 < ops.length then ⟨l, [], 0, 80⟩
  else if ops.any (fun x => !opOk x) then ⟨l, [], fidx (fun x => !opOk x) ops, 80⟩
  else if 1 < ops.length ∧ (reP l ops).any failed then ⟨l, [], fidx failed (reP l ops), ((reP l ops).getD ((reP l ops).findIdx failed) ⟨0, 0, ⟨#[]⟩, []⟩).code⟩
  else ⟨stP l ops, reP l ops, 0, 0⟩

/-- A result as it lies in memory. -/
structure RRes where
  code : Int
  stamp : Int
  val : ByteArray
  A : Option Addr
  n : Nat
  c : Nat
def RRes.enc (q : RRes) : List Value := [.int .i64 q.code, .int .i64 q.stamp, .string q.val, .slice q.A q.n q.c]
instance : Inhabited RRes := ⟨⟨0, 0, ⟨#[]⟩, none, 0, 0⟩⟩
structure RMatch (base B : Nat) (w : World) (q : RRes) (r : Res) : Prop where
  code : q.code = r.code
  stamp : q.stamp = r.stamp
  val : q.val = r.val
  rd : Rd base 131 w 3 q.A q.n q.c (rowCells r.rows)
  own : w.ownsRow B 131 3 (.slice q.A q.n q.c) q.n (rowCells r.rows)

theorem own_ist {w : World} {b e k n : Nat} {v : Value} {xs : List Value} (h : w.ownsRow b e k v n xs) : ∀ j, v.ownBlock = some j → IsT w j e ∧ b ≤ j := by
  intro j hj
  rcases h.2 with ⟨rfl, _⟩ | ⟨g, cap, cur, rfl, hb, hgg, rest⟩
  · simp [Value.ownBlock] at hj
  · simp [Value.ownBlock] at hj
    subst hj
    exact ⟨⟨_, _, hgg⟩, hb⟩
theorem IsT.ne {w : World} {j i : Nat} {T U : TypeId} (h : IsT w j T) (k : IsT w i U) (hne : T ≠ U) : j ≠ i := by
  rintro rfl
  obtain ⟨cs, fr, e⟩ := h
  obtain ⟨cs', fr', e'⟩ := k
  rw [e] at e'
  injection e' with e'
  injection e' with _ e'
  exact hne e'
section
variable {base T U B e : Nat} {w w' : World} {row : Option Nat}
theorem Rd.grownR {k n c : Nat} {A : Option Addr} {xs : List Value} (h : Rd base T w k A n c xs) (hg : w.grownBy w' row) (hr : ∀ j, row = some j → IsT w j U ∧ base ≤ j) (hU : U ≠ T) : Rd base T w' k A n c xs :=
  h.keep hg.size fun b hs => hg.block b hs.lt (by
    intro e
    obtain ⟨⟨cs, fr, hc⟩, hb⟩ := hr b e.symm
    exact hs.ne hc hU hb rfl)
theorem own_grownR {k n : Nat} {v : Value} {xs : List Value} (h : w.ownsRow B e k v n xs) (hg : w.grownBy w' row) (hr : ∀ j, row = some j → IsT w j U) (hU : U ≠ e) : w'.ownsRow B e k v n xs := by
  refine h.kept hg ?_
  cases hv : v.ownBlock with
  | none => exact .inl rfl
  | some j =>
    refine .inr fun e => ?_
    exact ((own_ist h j hv).1.ne (hr j e.symm) hU.symm) rfl
theorem Tab.grownR {g c : Nat} {l : List Rw} {A : Option Addr} (h : Tab base w g l A c) (hg : w.grownBy w' row) (hr : ∀ j, row = some j → IsT w j U ∧ base ≤ j) (h1 : U ≠ 131) (h2 : U ≠ 77) : Tab base w' g l A c :=
  ⟨(hg.block g h.lt (fun e => (IsT.ne ⟨_, _, h.blk⟩ (hr g e.symm).1 h2.symm) rfl)).trans h.blk, h.ge, h.rd.grownR hg hr h1, h.srt, h.big, fun a ha => Nat.lt_of_lt_of_le (h.old a ha) hg.size⟩
theorem RMatch.grownR {q : RRes} {r : Res} (h : RMatch base B w q r) (hg : w.grownBy w' row) (hr : ∀ j, row = some j → IsT w j U ∧ base ≤ j) (h1 : U ≠ 131) : RMatch base B w' q r :=
  ⟨h.code, h.stamp, h.val, h.rd.grownR hg hr h1, own_grownR h.own hg (fun j hj => (hr j hj).1) h1⟩
theorem RMatch.below {q : RRes} {r : Res} (h : RMatch base B w q r) (hb : Below w.heap.size w w') : RMatch base B w' q r :=
  ⟨h.code, h.stamp, h.val, h.rd.below hb, h.own.kept (gb_below hb none) (by cases (Value.slice q.A q.n q.c).ownBlock <;> simp)⟩
end
def All2 {α β : Type} (R : α → β → Prop) : List α → List β → Prop
  | [], [] => True
  | a :: l, b :: m => R a b ∧ All2 R l m
  | _, _ => False
theorem All2.mono {α β : Type} {R S : α → β → Prop} (h : ∀ a b, R a b → S a b) : ∀ {l : List α} {m : List β}, All2 R l m → All2 S l m
  | [], [], _ => trivial
  | _ :: _, _ :: _, k => ⟨h _ _ k.1, All2.mono h k.2⟩
  | [], _ :: _, k => k.elim
  | _ :: _, [], k => k.elim
theorem All2.snoc {α β : Type} {R : α → β → Prop} {a : α} {b : β} : ∀ {l : List α} {m : List β}, All2 R l m → R a b → All2 R (l ++ [a]) (m ++ [b])
  | [], [], _, h => ⟨h, trivial⟩
  | _ :: _, _ :: _, k, h => ⟨k.1, All2.snoc k.2 h⟩
  | [], _ :: _, k, _ => k.elim
  | _ :: _, [], k, _ => k.elim
theorem All2.len {α β : Type} {R : α → β → Prop} : ∀ {l : List α} {m : List β}, All2 R l m → l.length = m.length
  | [], [], _ => rfl
  | _ :: _, _ :: _, k => by simp [All2.len k.2]
  | [], _ :: _, k => k.elim
  | _ :: _, [], k => k.elim
theorem All2.at_ {α β : Type} {R : α → β → Prop} : ∀ {l : List α} {m : List β} (h : All2 R l m) (i : Nat) (h1 : i < l.length) (h2 : i < m.length), R l[i] m[i]
  | _ :: _, _ :: _, k, 0, _, _ => k.1
  | _ :: _, _ :: _, k, i + 1, h1, h2 => All2.at_ k.2 i (by simpa using h1) (by simpa using h2)
  | [], _, _, _, h1, _ => by simp at h1
  | _ :: _, [], k, _, _, _ => k.elim
section
variable {base T U B e : Nat} {w w' : World} {row : Option Nat}
/-- The results rs lie in memory as rr. -/
def RMs (base B : Nat) (w : World) (rr : List RRes) (rs : List Res) : Prop := All2 (RMatch base B w) rr rs
theorem RMs.grownR {rr : List RRes} {rs : List Res} (h : RMs base B w rr rs) (hg : w.grownBy w' row) (hr : ∀ j, row = some j → IsT w j U ∧ base ≤ j) (h1 : U ≠ 131) : RMs base B w' rr rs :=
  All2.mono (fun _ _ q => q.grownR hg hr h1) h
theorem RMs.below {rr : List RRes} {rs : List Res} (h : RMs base B w rr rs) (hb : Below w.heap.size w w') : RMs base B w' rr rs := All2.mono (fun _ _ q => q.below hb) h
end
theorem elt_res : Elt Tryz.prog 47 81 4 56 := Elt.mk' Tryz.underlying47 (z := .agg #[.int .i64 0, .int .i64 0, .string ⟨#[]⟩, .slice none 0 0]) (by kernel_rfl) rfl (by omega)
def resCells (rr : List RRes) : List Value := rr.flatMap RRes.enc
theorem res_one (rr : List RRes) : ∀ u ∈ resCells rr, u.oneCell' = true := by
  intro u hu
  unfold resCells at hu
  obtain ⟨r, _, hr⟩ := List.mem_flatMap.1 hu
  simp only [RRes.enc, List.mem_cons, List.not_mem_nil, or_false] at hr
  rcases hr with rfl | rfl | rfl | rfl <;> rfl

/-- The table's rows' block is no result's rows' block. -/
def NeR (A : Option Addr) (rr : List RRes) : Prop := ∀ q ∈ rr, ∀ a a', q.A = some a → A = some a' → a.block ≠ a'.block
theorem NeR.nil (A : Option Addr) : NeR A [] := fun _ h => by cases h
theorem RMs.lt {base B : Nat} {w : World} {rr : List RRes} {rs : List Res} (h : RMs base B w rr rs) : ∀ q ∈ rr, ∀ a, q.A = some a → B ≤ a.block ∧ a.block < w.heap.size := by
  intro q hq a ha
  obtain ⟨i, hi, rfl⟩ := List.mem_iff_getElem.1 hq
  exact (All2.at_ h i hi (by rw [← All2.len h]; exact hi)).own.lt a.block (by rw [ha]; rfl)
theorem NeR.step {w1 : World} {Ak A3 : Option Addr} {rr : List RRes} {q : RRes} (h : NeR Ak rr) (hfr : Fr w1 Ak A3) (hq : q.A = none ∨ A3 = Ak) (ho : ∀ p ∈ rr, ∀ a, p.A = some a → a.block < w1.heap.size) (hn : ∀ a, q.A = some a → w1.heap.size ≤ a.block) (hA : ∀ a, Ak = some a → a.block < w1.heap.size) : NeR A3 (rr ++ [q]) := by
  intro p hp a a' ha ha'
  rcases List.mem_append.1 hp with hp | hp
  · rcases hfr with rfl | hfr
    · exact h p hp a a' ha ha'
    · have := ho p hp a ha
      have := hfr a' ha'
      omega
  · rw [List.mem_singleton] at hp
    subst hp
    rcases hq with hq | rfl
    · rw [hq] at ha; cases ha
    · have := hn a ha
      have := hA a' ha'
      omega

def DoPost2 (base : Nat) (w : World) (A : Option Addr) (g : Nat) (d : DoR) (e : Ending) (w' : World) : Prop :=
  ∃ A1 n c rr, e = .returned (.tuple #[.slice A1 n c, .agg #[.int .i64 d.at_, .int .i64 d.code]]) ∧ w.grownBy w' (some g) ∧ (∃ A' c', Tab base w' g d.rows A' c' ∧ Fr w A A' ∧ NeR A' rr) ∧
    w'.ownsRow w.heap.size 81 4 (.slice A1 n c) n (resCells rr) ∧ RMs base w.heap.size w' rr d.res

def DoPost (base : Nat) (w : World) (g : Nat) (d : DoR) (e : Ending) (w' : World) : Prop :=
  ∃ A n c rr, e = .returned (.tuple #[.slice A n c, .agg #[.int .i64 d.at_, .int .i64 d.code]]) ∧ w.grownBy w' (some g) ∧ (∃ A' c', Tab base w' g d.rows A' c') ∧
    w'.ownsRow w.heap.size 81 4 (.slice A n c) n (resCells rr) ∧ RMs base w.heap.size w' rr d.res

end Go.Proofs.YtallnibjmffahaaGreatDoor

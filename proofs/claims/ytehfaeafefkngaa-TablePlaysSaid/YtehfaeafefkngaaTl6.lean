/- TableApart, the walk. -/
import Derived.Test.YtehfaeafefkngaaTl4
import Derived.Test.YtehfaeafefkngaaTl5
import Derived.Test.YtehfaeafefkngaaTr
set_option linter.unusedVariables false
set_option linter.unusedSimpArgs false
namespace Go.Proofs.Ytehfaeafefkngaa
open Go.RowKit


def Box (base : Nat) (w : World) (b : Nat) (x : OpR) : Prop := Rd base 28 w 6 (some ⟨b, 0, none⟩) 1 1 x.enc
theorem Box.cell {base b : Nat} {w : World} {x : OpR} (h : Box base w b x) : w.cell? ⟨b, 0, none⟩ = some (.int .i64 x.kind) ∧ w.cell? ⟨b, 1, none⟩ = some (.string x.key) ∧ w.cell? ⟨b, 2, none⟩ = some (.string x.val) ∧
    w.cell? ⟨b, 3, none⟩ = some (.int .i64 x.stamp) ∧ w.cell? ⟨b, 4, none⟩ = some (.int .i64 x.test) ∧ w.cell? ⟨b, 5, none⟩ = some (.int .i64 x.most) := by
  obtain ⟨b', off, hA, _, hc⟩ := Rd.elem h (i := 0) (by omega)
  injection hA with hA
  injection hA with h1 h2 _
  subst h1 h2
  exact ⟨hc 0 (by omega), hc 1 (by omega), hc 2 (by omega), hc 3 (by omega), hc 4 (by omega), hc 5 (by omega)⟩
theorem Box.lt {base b : Nat} {w : World} {x : OpR} (h : Box base w b x) : b < w.heap.size := by
  obtain ⟨b', off, hA, hl, hc⟩ := Rd.elem h (i := 0) (by omega)
  cases hA
  exact hl
theorem alloc_lt (w : World) (o : Obj) : w.heap.size < (w.alloc o).heap.size := by simp
def FBox (base : Nat) (w : World) (b : Nat) (i j : Int) : Prop := Rd base 32 w 2 (some ⟨b, 0, none⟩) 1 1 [.int .i64 i, .int .i64 j]
theorem FBox.cell {base b : Nat} {w : World} {i j : Int} (h : FBox base w b i j) : w.cell? ⟨b, 0, none⟩ = some (.int .i64 i) ∧ w.cell? ⟨b, 1, none⟩ = some (.int .i64 j) := by
  obtain ⟨b', off, hA, _, hc⟩ := Rd.elem h (i := 0) (by omega)
  injection hA with hA
  injection hA with h1 h2 _
  subst h1 h2
  exact ⟨hc 0 (by omega), hc 1 (by omega)⟩

/-- Do with one operation, laid into a slice of its own. -/
theorem Do1op {base g c : Nat} {w : World} {l : List Rw} {A : Option Addr} (h : Tab base w g l A c) (x : OpR) (fx : Fits x) {b : Nat} (eb : b = w.heap.size) :
    Calls Try.prog 14 #[.pointer (some ⟨g, 0, none⟩), .slice (some ⟨b, 0, none⟩) 1 1] (w.alloc (.cells x.enc.toArray 28)) fun e w' =>
      ∃ A n c rr B, e = .returned (.tuple #[.slice A n c, .agg #[.int .i64 (doP l [x]).at_, .int .i64 (doP l [x]).code]]) ∧ w.grownBy w' (some g) ∧ (∃ A' c', Tab base w' g (doP l [x]).rows A' c') ∧
        Rd base 39 w' 4 A n c (resCells rr) ∧ RMs base B w' rr (doP l [x]).res := by
  subst eb
  have hb := h.below ((Below.refl w.heap.size w).alloc (Nat.le_refl _) (.cells x.enc.toArray 28))
  refine (Do_calls hb [x] _ 1 1 (Rd.new_ rfl rfl) (fun y hy => by rw [List.mem_singleton.1 hy]; exact fx)).mono ?_
  rintro e w' ⟨A, n, c, rr, rfl, hg, hT, hO, hR⟩
  have hg' : w.grownBy w' (some g) := gb_trans (gb_below ((Below.refl _ _).alloc (Nat.le_refl _) _) _) hg
  obtain ⟨A2, c2, hs, hRd⟩ := Rd.of_own (base := base) hO
  injection hs with h1 _ h2
  subst h1 h2
  exact ⟨_, _, _, rr, _, rfl, hg', hT, hRd, hR⟩
theorem res1 (l : List Rw) (x : OpR) : (doP l [x]).res.length ≤ 1 := by
  rw [doP_one]
  split <;> simp

set_option maxHeartbeats 8000000 in
set_option maxRecDepth 100000 in
theorem Apart_walk {w : World} {Al : Option Addr} {nl cl : Nat} {ll : List RSl} {opss : List (List OpR)} (hl : Rd w.heap.size 22 w 1 Al nl cl (ll.flatMap RSl.enc)) (ha : All2 (OpsIn w.heap.size w) ll opss)
    (x : OpR) (fx : Fits x) (y : OpR) (fy : Fits y) :
    Calls Try.prog 5 #[.slice Al nl cl, .agg x.enc.toArray, .agg y.enc.toArray] w fun e w' => e = .returned (.bool true) ∧ Below w.heap.size w w' := by
  have L := Asd.mk hl
  have AA := Asd.mk ha
  have FX := Asd.mk fx
  have FY := Asd.mk fy
  clear hl ha fx fy
  have hplay := fun (W : World) (hB : Below w.heap.size w W) => played_calls (L.out.below hB) (AA.out.mono (fun a b h => h.below hB)) hB.size
  have PL := Asd.mk hplay
  clear hplay
  go_enter Try.func5, Try.ntmps5
  go_wp2_with fail
  have hx0 : Box w.heap.size ((w.alloc (.cells x.enc.toArray 28)).alloc (.cells y.enc.toArray 28)) w.heap.size x := Rd.alloc (Rd.new_ rfl rfl) _
  have hy0 : Box w.heap.size ((w.alloc (.cells x.enc.toArray 28)).alloc (.cells y.enc.toArray 28)) (w.heap.size + 1) y := Rd.new2 _ rfl rfl
  have hb0 : Below w.heap.size w ((w.alloc (.cells x.enc.toArray 28)).alloc (.cells y.enc.toArray 28)) := ((Below.refl _ _).alloc (Nat.le_refl _) _).alloc (by simp) _
  have hsz : w.heap.size + 1 < ((w.alloc (.cells x.enc.toArray 28)).alloc (.cells y.enc.toArray 28)).heap.size := by simp
  generalize hyb : w.heap.size + 1 = yb at hy0 hsz ⊢
  have YB := Asd.mk hyb
  clear hyb
  generalize ((w.alloc (.cells x.enc.toArray 28)).alloc (.cells y.enc.toArray 28)) = w0 at hx0 hy0 hb0 hsz ⊢
  have X := Asd.mk hx0
  have Y := Asd.mk hy0
  have B0 := Asd.mk hb0
  clear hx0 hy0 hb0
  refine (works_calls _).mono ?_
  rintro e wa ⟨rfl, hba⟩
  have Ba := Asd.mk (B0.out.trans (hba.mono B0.out.size))
  have X := Asd.mk (Rd.below X.out hba)
  have Y := Asd.mk (Rd.below Y.out hba)
  clear hba hsz
  go_wp2_with fail
  refine (PL.out _ Ba.out).mono ?_
  rintro e wb ⟨gt, rfl, hTt, hgt, hbb⟩
  have hbase1 : w.heap.size ≤ gt := Nat.le_trans Ba.out.size hgt
  have Bb := Asd.mk (Ba.out.trans (hbb.mono Ba.out.size))
  obtain ⟨At, ct, hTt⟩ := hTt
  have Tt := Asd.mk hTt
  have lt1 : gt < wb.heap.size := hTt.lt
  have hx0 : Box w.heap.size wb w.heap.size x := Rd.below X.out hbb
  have hy0 : Box w.heap.size wb yb y := Rd.below Y.out hbb
  have hlx := (Rd.elem hx0 (i := 0) (by omega))
  have hly := (Rd.elem hy0 (i := 0) (by omega))
  obtain ⟨c0, c1, c2, c3, c4, c5⟩ := Box.cell hx0
  obtain ⟨d0, d1, d2, d3, d4, d5⟩ := Box.cell hy0
  have X := Asd.mk hx0
  have Y := Asd.mk hy0
  clear hbb hTt hx0 hy0 hlx hly
  by_cases k1 : x.kind = 6
  · go_wp2_with fail
    go_ret
    exact ⟨rfl, Bb.out⟩
  by_cases k2 : y.kind = 6
  · go_wp2_with fail
    go_ret
    exact ⟨rfl, Bb.out⟩
  by_cases k3 : x.key.toList = y.key.toList
  · go_wp2_with fail
    go_ret
    exact ⟨rfl, Bb.out⟩
  go_wp2_with fail
  · go_ret
    exact ⟨rfl, Bb.out⟩
  refine (Fork_calls Tt.out Bb.out.size).mono ?_
  rintro e wc ⟨gu, rfl, hTu, hgu, hbc⟩
  have Bc := Asd.mk (Bb.out.trans (hbc.mono Bb.out.size))
  obtain ⟨Au, cu, hTu⟩ := hTu
  have Tu := Asd.mk hTu
  have Tt := Asd.mk (Tt.out.below hbc)
  have hne : gt ≠ gu := by omega
  have hbase2 : w.heap.size ≤ gu := by omega
  have hx0 : Box w.heap.size wc w.heap.size x := Rd.below X.out hbc
  have hy0 : Box w.heap.size wc yb y := Rd.below Y.out hbc
  obtain ⟨c0, c1, c2, c3, c4, c5⟩ := Box.cell hx0
  have HAP := Asd.mk (apart_do (l := playP [] (opss.take 40)) (played_sorted opss) (by have := played_len opss; omega) k1 k2 (fun e => k3 (by rw [e])))
  have X := Asd.mk hx0
  have Y := Asd.mk hy0
  clear hbc hTu hx0 hy0 d0 d1 d2 d3 d4 d5 k1 k2 k3
  go_wp2_with fail
  refine (Do1op Tt.out x FX.out rfl).mono ?_
  rintro e wd ⟨Ra, na, ca, ra, Ma, rfl, hg1, hT1, hRd1, hR1⟩
  have gT1 : IsT wc gt 71 := ⟨_, _, Tt.out.blk⟩
  have Bd := Asd.mk (Bc.out.grown hg1 Bc.out.size (fun j hj => by injection hj with hj; omega))
  have Tu := Asd.mk (Tu.out.grown hg1 Tt.out.blk Tt.out.ge (by omega))
  have X := Asd.mk (Rd.grown X.out hg1 Tt.out.blk (by decide) Tt.out.ge)
  have Y := Asd.mk (Rd.grown Y.out hg1 Tt.out.blk (by decide) Tt.out.ge)
  obtain ⟨At', ct', hT1⟩ := hT1
  have Tt := Asd.mk hT1
  have Q1 := Asd.mk hRd1
  have M1 := Asd.mk hR1
  clear hg1 hT1 hRd1 hR1 gT1 c0 c1 c2 c3 c4 c5
  have hf1 : FBox w.heap.size (wd.alloc (.cells #[.int .i64 (doP (playP [] (opss.take 40)) [x]).at_, .int .i64 (doP (playP [] (opss.take 40)) [x]).code] 32)) wd.heap.size (doP (playP [] (opss.take 40)) [x]).at_ (doP (playP [] (opss.take 40)) [x]).code := Rd.new_ rfl rfl
  have hal1 : Below wd.heap.size wd (wd.alloc (.cells #[.int .i64 (doP (playP [] (opss.take 40)) [x]).at_, .int .i64 (doP (playP [] (opss.take 40)) [x]).code] 32)) := (Below.refl _ _).alloc (Nat.le_refl _) _
  have F1 := Asd.mk hf1
  have hx0 : Box w.heap.size wd yb y := Y.out
  have hly := Box.lt hx0
  obtain ⟨d0, d1, d2, d3, d4, d5⟩ := Box.cell hx0
  go_wp2_with fail
  refine (Do1op (w := (wd.alloc (.cells #[.int .i64 (doP (playP [] (opss.take 40)) [x]).at_, .int .i64 (doP (playP [] (opss.take 40)) [x]).code] 32))) (Tt.out.below hal1) y FY.out (by simp)).mono ?_
  rintro e we ⟨Rb, nb, cb, rb, Mb, rfl, hg1, hT1, hRd1, hR1⟩
  have tl := Tt.out.below hal1
  have gT1 : IsT (wd.alloc (.cells #[.int .i64 (doP (playP [] (opss.take 40)) [x]).at_, .int .i64 (doP (playP [] (opss.take 40)) [x]).code] 32)) gt 71 := ⟨_, _, tl.blk⟩
  have gR1 : ∀ j, some gt = some j → IsT (wd.alloc (.cells #[.int .i64 (doP (playP [] (opss.take 40)) [x]).at_, .int .i64 (doP (playP [] (opss.take 40)) [x]).code] 32)) j 71 ∧ w.heap.size ≤ j := fun j hj => by
    injection hj with hj
    subst hj
    exact ⟨gT1, tl.ge⟩
  have Bq := Asd.mk ((Bd.out.trans (hal1.mono Bd.out.size)).grown hg1 (Nat.le_trans Bd.out.size hal1.size) (fun j hj => by injection hj with hj; omega))
  have Tu := Asd.mk ((Tu.out.below hal1).grown hg1 tl.blk tl.ge (by omega))
  have X := Asd.mk (Rd.grown (Rd.below X.out hal1) hg1 tl.blk (by decide) tl.ge)
  have Y := Asd.mk (Rd.grown (Rd.below Y.out hal1) hg1 tl.blk (by decide) tl.ge)
  have Q1 := Asd.mk (Rd.grown (Rd.below Q1.out hal1) hg1 tl.blk (by decide) tl.ge)
  have M1 := Asd.mk (RMs.grownR (RMs.below M1.out hal1) hg1 gR1 (by decide))
  have F1 := Asd.mk (Rd.grown (F1.out) hg1 tl.blk (by decide) tl.ge)
  obtain ⟨At', ct', hT1⟩ := hT1
  have Tt := Asd.mk hT1
  have Q2 := Asd.mk hRd1
  have M2 := Asd.mk hR1
  have Bd := Bq
  have hps2 : wd.heap.size < we.heap.size := Nat.lt_of_lt_of_le (alloc_lt _ _) hg1.size
  clear Bq hg1 hT1 hRd1 hR1 gT1 gR1 tl hal1 hf1 hx0 d0 d1 d2 d3 d4 d5

  have hf2 : FBox w.heap.size (we.alloc (.cells #[.int .i64 (doP (doP (playP [] (opss.take 40)) [x]).rows [y]).at_, .int .i64 (doP (doP (playP [] (opss.take 40)) [x]).rows [y]).code] 32)) we.heap.size (doP (doP (playP [] (opss.take 40)) [x]).rows [y]).at_ (doP (doP (playP [] (opss.take 40)) [x]).rows [y]).code := Rd.new_ rfl rfl
  have hal2 : Below we.heap.size we (we.alloc (.cells #[.int .i64 (doP (doP (playP [] (opss.take 40)) [x]).rows [y]).at_, .int .i64 (doP (doP (playP [] (opss.take 40)) [x]).rows [y]).code] 32)) := (Below.refl _ _).alloc (Nat.le_refl _) _
  have F2 := Asd.mk hf2
  have hx0 : Box w.heap.size we yb y := Y.out
  have hly := Box.lt hx0
  obtain ⟨d0, d1, d2, d3, d4, d5⟩ := Box.cell hx0
  go_wp2_with fail
  refine (Do1op (w := (we.alloc (.cells #[.int .i64 (doP (doP (playP [] (opss.take 40)) [x]).rows [y]).at_, .int .i64 (doP (doP (playP [] (opss.take 40)) [x]).rows [y]).code] 32))) (Tu.out.below hal2) y FY.out (by simp)).mono ?_
  rintro e wf ⟨Rc, nc, cc, rc, Mc, rfl, hg1, hT1, hRd1, hR1⟩
  rw [← HAP.out.at2, ← HAP.out.code2]
  rw [← HAP.out.res2] at hR1
  have tl := Tu.out.below hal2
  have gT1 : IsT (we.alloc (.cells #[.int .i64 (doP (doP (playP [] (opss.take 40)) [x]).rows [y]).at_, .int .i64 (doP (doP (playP [] (opss.take 40)) [x]).rows [y]).code] 32)) gu 71 := ⟨_, _, tl.blk⟩
  have gR1 : ∀ j, some gu = some j → IsT (we.alloc (.cells #[.int .i64 (doP (doP (playP [] (opss.take 40)) [x]).rows [y]).at_, .int .i64 (doP (doP (playP [] (opss.take 40)) [x]).rows [y]).code] 32)) j 71 ∧ w.heap.size ≤ j := fun j hj => by
    injection hj with hj
    subst hj
    exact ⟨gT1, tl.ge⟩
  have Bq := Asd.mk ((Bd.out.trans (hal2.mono Bd.out.size)).grown hg1 (Nat.le_trans Bd.out.size hal2.size) (fun j hj => by injection hj with hj; omega))
  have Tt := Asd.mk ((Tt.out.below hal2).grown hg1 tl.blk tl.ge (by omega))
  have X := Asd.mk (Rd.grown (Rd.below X.out hal2) hg1 tl.blk (by decide) tl.ge)
  have Y := Asd.mk (Rd.grown (Rd.below Y.out hal2) hg1 tl.blk (by decide) tl.ge)
  have Q1 := Asd.mk (Rd.grown (Rd.below Q1.out hal2) hg1 tl.blk (by decide) tl.ge)
  have M1 := Asd.mk (RMs.grownR (RMs.below M1.out hal2) hg1 gR1 (by decide))
  have F1 := Asd.mk (Rd.grown (Rd.below F1.out hal2) hg1 tl.blk (by decide) tl.ge)
  have Q2 := Asd.mk (Rd.grown (Rd.below Q2.out hal2) hg1 tl.blk (by decide) tl.ge)
  have M2 := Asd.mk (RMs.grownR (RMs.below M2.out hal2) hg1 gR1 (by decide))
  have F2 := Asd.mk (Rd.grown (F2.out) hg1 tl.blk (by decide) tl.ge)
  obtain ⟨At', ct', hT1⟩ := hT1
  have Tu := Asd.mk hT1
  have Q3 := Asd.mk hRd1
  have M3 := Asd.mk hR1
  have Bd := Bq
  have hps3 : we.heap.size < wf.heap.size := Nat.lt_of_lt_of_le (alloc_lt _ _) hg1.size
  clear Bq hg1 hT1 hRd1 hR1 gT1 gR1 tl hal2 hf2 hx0 d0 d1 d2 d3 d4 d5

  have hf3 : FBox w.heap.size (wf.alloc (.cells #[.int .i64 (doP (doP (playP [] (opss.take 40)) [x]).rows [y]).at_, .int .i64 (doP (doP (playP [] (opss.take 40)) [x]).rows [y]).code] 32)) wf.heap.size (doP (doP (playP [] (opss.take 40)) [x]).rows [y]).at_ (doP (doP (playP [] (opss.take 40)) [x]).rows [y]).code := Rd.new_ rfl rfl
  have hal3 : Below wf.heap.size wf (wf.alloc (.cells #[.int .i64 (doP (doP (playP [] (opss.take 40)) [x]).rows [y]).at_, .int .i64 (doP (doP (playP [] (opss.take 40)) [x]).rows [y]).code] 32)) := (Below.refl _ _).alloc (Nat.le_refl _) _
  have F3 := Asd.mk hf3
  have hx0 : Box w.heap.size wf w.heap.size x := X.out
  have hly := Box.lt hx0
  obtain ⟨d0, d1, d2, d3, d4, d5⟩ := Box.cell hx0
  go_wp2_with fail
  refine (Do1op (w := (wf.alloc (.cells #[.int .i64 (doP (doP (playP [] (opss.take 40)) [x]).rows [y]).at_, .int .i64 (doP (doP (playP [] (opss.take 40)) [x]).rows [y]).code] 32))) (Tu.out.below hal3) x FX.out (by simp)).mono ?_
  rintro e wg ⟨Re, ne, ce, re, Me, rfl, hg1, hT1, hRd1, hR1⟩
  rw [← HAP.out.at1, ← HAP.out.code1]
  rw [← HAP.out.res1, ← HAP.out.rows] at *
  have tl := Tu.out.below hal3
  have gT1 : IsT (wf.alloc (.cells #[.int .i64 (doP (doP (playP [] (opss.take 40)) [x]).rows [y]).at_, .int .i64 (doP (doP (playP [] (opss.take 40)) [x]).rows [y]).code] 32)) gu 71 := ⟨_, _, tl.blk⟩
  have gR1 : ∀ j, some gu = some j → IsT (wf.alloc (.cells #[.int .i64 (doP (doP (playP [] (opss.take 40)) [x]).rows [y]).at_, .int .i64 (doP (doP (playP [] (opss.take 40)) [x]).rows [y]).code] 32)) j 71 ∧ w.heap.size ≤ j := fun j hj => by
    injection hj with hj
    subst hj
    exact ⟨gT1, tl.ge⟩
  have Bq := Asd.mk ((Bd.out.trans (hal3.mono Bd.out.size)).grown hg1 (Nat.le_trans Bd.out.size hal3.size) (fun j hj => by injection hj with hj; omega))
  have Tt := Asd.mk ((Tt.out.below hal3).grown hg1 tl.blk tl.ge (by omega))
  have X := Asd.mk (Rd.grown (Rd.below X.out hal3) hg1 tl.blk (by decide) tl.ge)
  have Y := Asd.mk (Rd.grown (Rd.below Y.out hal3) hg1 tl.blk (by decide) tl.ge)
  have Q1 := Asd.mk (Rd.grown (Rd.below Q1.out hal3) hg1 tl.blk (by decide) tl.ge)
  have M1 := Asd.mk (RMs.grownR (RMs.below M1.out hal3) hg1 gR1 (by decide))
  have F1 := Asd.mk (Rd.grown (Rd.below F1.out hal3) hg1 tl.blk (by decide) tl.ge)
  have Q2 := Asd.mk (Rd.grown (Rd.below Q2.out hal3) hg1 tl.blk (by decide) tl.ge)
  have M2 := Asd.mk (RMs.grownR (RMs.below M2.out hal3) hg1 gR1 (by decide))
  have F2 := Asd.mk (Rd.grown (Rd.below F2.out hal3) hg1 tl.blk (by decide) tl.ge)
  have Q3 := Asd.mk (Rd.grown (Rd.below Q3.out hal3) hg1 tl.blk (by decide) tl.ge)
  have M3 := Asd.mk (RMs.grownR (RMs.below M3.out hal3) hg1 gR1 (by decide))
  have F3 := Asd.mk (Rd.grown (F3.out) hg1 tl.blk (by decide) tl.ge)
  obtain ⟨At', ct', hT1⟩ := hT1
  have Tu := Asd.mk hT1
  have Q4 := Asd.mk hRd1
  have M4 := Asd.mk hR1
  have Bd := Bq
  have hps4 : wf.heap.size < wg.heap.size := Nat.lt_of_lt_of_le (alloc_lt _ _) hg1.size
  clear Bq hg1 hT1 hRd1 hR1 gT1 gR1 tl hal3 hf3 hx0 d0 d1 d2 d3 d4 d5
  have hal4 : Below wg.heap.size wg (wg.alloc (.cells #[.int .i64 (doP (playP [] (opss.take 40)) [x]).at_, .int .i64 (doP (playP [] (opss.take 40)) [x]).code] 32)) := (Below.refl _ _).alloc (Nat.le_refl _) _
  obtain ⟨f10, f11⟩ := FBox.cell F1.out
  obtain ⟨f20, f21⟩ := FBox.cell F2.out
  obtain ⟨f30, f31⟩ := FBox.cell F3.out
  have l1 : wd.heap.size < wg.heap.size := by omega
  have l2 : we.heap.size < wg.heap.size := by omega
  have Q1 := Asd.mk (Q1.out.below hal4)
  have Q2 := Asd.mk (Q2.out.below hal4)
  have Q3 := Asd.mk (Q3.out.below hal4)
  have Q4 := Asd.mk (Q4.out.below hal4)
  have M1 := Asd.mk (M1.out.below hal4)
  have M2 := Asd.mk (M2.out.below hal4)
  have M3 := Asd.mk (M3.out.below hal4)
  have M4 := Asd.mk (M4.out.below hal4)
  have Tt := Asd.mk (Tt.out.below hal4)
  have Tu := Asd.mk (Tu.out.below hal4)
  have Bd := Asd.mk (Bd.out.trans (hal4.mono Bd.out.size))
  clear hal4 F1 F2 F3 X Y
  go_wp2_with fail
  have hle := played_len opss
  have hso := played_sorted opss
  have RR1 := Asd.mk (doP_res_rows (l := playP [] (opss.take 40)) (by omega) hso [x])
  have RR2 := Asd.mk (doP_res_rows (l := (doP (playP [] (opss.take 40)) [x]).rows) (by have := doP_len1 (playP [] (opss.take 40)) [x]; omega) (doP_sorted hso [x]) [y])
  have hc1 := Q1.out.count (enc := RRes.enc) (fun _ => rfl) (by omega)
  have hc2 := Q2.out.count (enc := RRes.enc) (fun _ => rfl) (by omega)
  have hc3 := All2.len M1.out
  have hc4 := All2.len M2.out
  have hc5 := res1 (playP [] (opss.take 40)) x
  have hc6 := res1 (doP (playP [] (opss.take 40)) [x]).rows y
  have RC1 := Asd.mk (show na ≤ 140737488355328 by omega)
  have RC2 := Asd.mk (show nb ≤ 140737488355328 by omega)
  clear hle hso hc1 hc2 hc3 hc4 hc5 hc6
  generalize (wg.alloc (.cells #[.int .i64 (doP (playP [] (opss.take 40)) [x]).at_, .int .i64 (doP (playP [] (opss.take 40)) [x]).code] 32)) = wz at Q1 Q2 Q3 Q4 M1 M2 M3 M4 Tt Tu Bd ⊢
  refine (SameResults_yes Q1.out Q4.out M1.out M4.out RC1.out RR1.out).mono ?_
  rintro e wh ⟨rfl, q1, hq1⟩
  have hB1 : Below wz.heap.size wz wh := hq1 ▸ below_dn _ _
  have Q2 := Asd.mk (Q2.out.below hB1)
  have Q3 := Asd.mk (Q3.out.below hB1)
  have M2 := Asd.mk (M2.out.below hB1)
  have M3 := Asd.mk (M3.out.below hB1)
  have Tt := Asd.mk (Tt.out.below hB1)
  have Tu := Asd.mk (Tu.out.below hB1)
  have Bd := Asd.mk (Bd.out.trans (hB1.mono Bd.out.size))
  clear hB1 hq1
  go_wp2_with fail
  refine (SameResults_yes Q2.out Q3.out M2.out M3.out RC2.out RR2.out).mono ?_
  rintro e wi ⟨rfl, q2, hq2⟩
  have hB2 : Below wh.heap.size wh wi := hq2 ▸ below_dn _ _
  have Tt := Asd.mk (Tt.out.below hB2)
  have Tu := Asd.mk (Tu.out.below hB2)
  have Bd := Asd.mk (Bd.out.trans (hB2.mono Bd.out.size))
  clear hB2 hq2
  go_wp2_with fail
  refine (Rows_calls Tt.out allS).mono ?_
  rintro e wj ⟨R1, d1, rfl, hr1, _, hb1⟩
  have Bd := Asd.mk (Bd.out.trans (hb1.mono Bd.out.size))
  have Tu := Asd.mk (Tu.out.below hb1)
  have P1 := Asd.mk hr1
  clear hb1 hr1
  go_wp2_with fail
  refine (Rows_calls Tu.out allS).mono ?_
  rintro e wk ⟨R2, d2, rfl, hr2, _, hb2⟩
  have Bd := Asd.mk (Bd.out.trans (hb2.mono Bd.out.size))
  have P1 := Asd.mk (P1.out.below hb2)
  have P2 := Asd.mk hr2
  have hlen : (rowsP (doP (doP (playP [] (opss.take 40)) [x]).rows [y]).rows allS).length ≤ 140737488355328 := by
    have := Tu.out.big
    have h2 := endsP_le (doP (doP (playP [] (opss.take 40)) [x]).rows [y]).rows allS
    rw [rowsP_len]; omega
  have HL := Asd.mk hlen
  clear hb2 hr2 hlen
  go_wp2_with fail
  refine (SameRows_calls P1.out P2.out HL.out).mono ?_
  rintro e wl ⟨rfl, hb3⟩
  have Bd := Asd.mk (Bd.out.trans (hb3.mono Bd.out.size))
  clear hb3
  rw [decide_eq_true rfl]
  go_wp2_with fail
  go_ret
  exact ⟨rfl, Bd.out⟩
end Go.Proofs.Ytehfaeafefkngaa

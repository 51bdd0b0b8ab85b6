/- The law's example: its history, plain and in memory. -/
import Derived.Test.YtlhjfblpinpjiaaF9
set_option linter.unusedVariables false
set_option linter.unusedSimpArgs false
namespace Go.Proofs.Ytlhjfblpinpjiaa
open Go.RowKit

def tK : ByteArray := ⟨#[107]⟩
def tV : ByteArray := ⟨#[118]⟩
def tE : ByteArray := ⟨#[]⟩
def op1 : OpR := ⟨1, tK, tV, 1, 0, 0⟩
def op2 : OpR := ⟨5, tK, tE, 0, 0, 0⟩
def rr1 : RRes := ⟨0, 1, tE, none, 0, 0⟩
def rr2 : RRes := ⟨91, 0, tE, none, 0, 0⟩
def rr3 : RRes := ⟨0, 1, tV, none, 0, 0⟩
def resOf (q : RRes) : Res := ⟨q.code, q.stamp, q.val, []⟩
def exCall (a t : Int) (o : Nat) (x : OpR) (q : RRes) : CallR := ⟨a, t, 0, 1, some ⟨o, 0, none⟩, 1, 1, 0, 0, some ⟨o + 1, 0, none⟩, 1, 1, 0, 0, [x], [resOf q], [q]⟩
/-- The example's history; q: the second call's result. -/
def exH (s : Nat) (q : RRes) : List CallR := [exCall 1 2 s op1 rr1, exCall 3 4 (s + 1 + 1) op2 q]
theorem exJ1 (s : Nat) : judgeP (exH s rr2) [0, 1] = (1, 251) := by kernel_rfl
theorem exJ2 (s : Nat) : judgeP (exH s rr2) [1, 0] = (1, 250) := by kernel_rfl
theorem exJ3 (s : Nat) : judgeP (exH s rr3) [0, 1] = (0, 0) := by kernel_rfl
theorem exS1 (s : Nat) : searchP (exH s rr2) = ([], false, 0) := by kernel_rfl
theorem exS2 (s : Nat) : searchP (exH s rr3) = ([0, 1], true, 0) := by kernel_rfl

theorem alloc5 (w : World) (o0 o1 o2 o3 o4 : Obj) :
    Below w.heap.size w (((((w.alloc o0).alloc o1).alloc o2).alloc o3).alloc o4) ∧ (((((w.alloc o0).alloc o1).alloc o2).alloc o3).alloc o4).heap[w.heap.size]? = some o0 ∧
      (((((w.alloc o0).alloc o1).alloc o2).alloc o3).alloc o4).heap[w.heap.size + 1]? = some o1 ∧ (((((w.alloc o0).alloc o1).alloc o2).alloc o3).alloc o4).heap[w.heap.size + 1 + 1]? = some o2 ∧
      (((((w.alloc o0).alloc o1).alloc o2).alloc o3).alloc o4).heap[w.heap.size + 1 + 1 + 1]? = some o3 ∧ (((((w.alloc o0).alloc o1).alloc o2).alloc o3).alloc o4).heap[w.heap.size + 1 + 1 + 1 + 1]? = some o4 := by
  obtain ⟨W1, hW1⟩ : ∃ W1, w.alloc o0 = W1 := ⟨_, rfl⟩
  obtain ⟨W2, hW2⟩ : ∃ W2, W1.alloc o1 = W2 := ⟨_, rfl⟩
  obtain ⟨W3, hW3⟩ : ∃ W3, W2.alloc o2 = W3 := ⟨_, rfl⟩
  obtain ⟨W4, hW4⟩ : ∃ W4, W3.alloc o3 = W4 := ⟨_, rfl⟩
  obtain ⟨W5, hW5⟩ : ∃ W5, W4.alloc o4 = W5 := ⟨_, rfl⟩
  have s1 : W1.heap.size = w.heap.size + 1 := by rw [← hW1]; simp
  have s2 : W2.heap.size = w.heap.size + 1 + 1 := by rw [← hW2]; simp [s1]
  have s3 : W3.heap.size = w.heap.size + 1 + 1 + 1 := by rw [← hW3]; simp [s2]
  have s4 : W4.heap.size = w.heap.size + 1 + 1 + 1 + 1 := by rw [← hW4]; simp [s3]
  have b1 : Below w.heap.size w W1 := by rw [← hW1]; exact (Below.refl _ _).alloc (Nat.le_refl _) _
  have b2 : Below W1.heap.size W1 W2 := by rw [← hW2]; exact (Below.refl _ _).alloc (Nat.le_refl _) _
  have b3 : Below W2.heap.size W2 W3 := by rw [← hW3]; exact (Below.refl _ _).alloc (Nat.le_refl _) _
  have b4 : Below W3.heap.size W3 W4 := by rw [← hW4]; exact (Below.refl _ _).alloc (Nat.le_refl _) _
  have b5 : Below W4.heap.size W4 W5 := by rw [← hW5]; exact (Below.refl _ _).alloc (Nat.le_refl _) _
  have h0 := heap_alloc_new w o0
  have h1 := heap_alloc_new W1 o1
  have h2 := heap_alloc_new W2 o2
  have h3 := heap_alloc_new W3 o3
  have h4 := heap_alloc_new W4 o4
  rw [hW1] at h0
  rw [hW2, s1] at h1
  rw [hW3, s2] at h2
  rw [hW4, s3] at h3
  rw [hW5, s4] at h4
  rw [hW1, hW2, hW3, hW4, hW5]
  exact ⟨b1.trans ((b2.mono (by omega)).trans ((b3.mono (by omega)).trans ((b4.mono (by omega)).trans (b5.mono (by omega))))),
    (b5.block _ (by omega)).trans ((b4.block _ (by omega)).trans ((b3.block _ (by omega)).trans ((b2.block _ (by omega)).trans h0))),
    (b5.block _ (by omega)).trans ((b4.block _ (by omega)).trans ((b3.block _ (by omega)).trans h1)), (b5.block _ (by omega)).trans ((b4.block _ (by omega)).trans h2), (b5.block _ (by omega)).trans h3, h4⟩

theorem rd_block {base T k n : Nat} {w : World} {b : Nat} {cs : Array Value} {fr : Nat × Nat} {xs : List Value} (h : w.heap[b]? = some (.cells cs T fr)) (hc : cs.toList = xs) (hl : xs.length = n * k) : Rd base T w k (some ⟨b, 0, none⟩) n n xs :=
  ⟨hl, Nat.le_refl _, fun e => by simp at e, fun _ => ⟨_, 0, rfl, ⟨(Array.getElem?_eq_some_iff.1 h).1, .inr ⟨_, _, h⟩⟩, fun j u hu => by
    rw [cell_of_row _ _ _ _ _ _ h, Nat.zero_add, ← Array.getElem?_toList, hc]
    exact hu⟩⟩

/-- The example's blocks. -/
structure WK (w wr : World) (q : RRes) : Prop where
  below : Below w.heap.size w wr
  b0 : wr.heap[w.heap.size]? = some (.cells op1.enc.toArray 64 (0, 0))
  b1 : wr.heap[w.heap.size + 1]? = some (.cells rr1.enc.toArray 47 (0, 0))
  b2 : wr.heap[w.heap.size + 1 + 1]? = some (.cells op2.enc.toArray 64 (0, 0))
  b3 : wr.heap[w.heap.size + 1 + 1 + 1]? = some (.cells q.enc.toArray 47 (0, 0))
  b4 : wr.heap[w.heap.size + 1 + 1 + 1 + 1]? = some (.cells ((exH w.heap.size q).flatMap CallR.enc).toArray 44 (0, 0))
theorem WK.lt {w wr : World} {q : RRes} (h : WK w wr q) : w.heap.size + 1 + 1 + 1 + 1 < wr.heap.size := (Array.getElem?_eq_some_iff.1 h.b4).1
theorem WK.next {w wr w' : World} {q : RRes} (h : WK w wr q) (hb : Below wr.heap.size wr w') : WK w w' q := by
  have hl := h.lt
  have hs := h.below.size
  exact ⟨h.below.trans (hb.mono hs), (hb.block _ (by omega)).trans h.b0, (hb.block _ (by omega)).trans h.b1, (hb.block _ (by omega)).trans h.b2, (hb.block _ (by omega)).trans h.b3, (hb.block _ (by omega)).trans h.b4⟩
theorem WK.hist {w wr : World} {q : RRes} (h : WK w wr q) (hq : q.A = none ∧ q.n = 0 ∧ q.c = 0) : Hist w.heap.size wr (some ⟨w.heap.size + 1 + 1 + 1 + 1, 0, none⟩) 2 2 (exH w.heap.size q) := by
  obtain ⟨hA, hn, hc⟩ := hq
  refine ⟨rd_block h.b4 rfl rfl, fun x hx => ?_, by omega⟩
  have hx2 : x = exCall 1 2 w.heap.size op1 rr1 ∨ x = exCall 3 4 (w.heap.size + 1 + 1) op2 q := by simpa [exH] using hx
  rcases hx2 with rfl | rfl
  · exact ⟨rd_block h.b0 rfl rfl, fun y hy => by
      obtain rfl : y = op1 := by simpa [exCall] using hy
      exact ⟨by decide, by decide⟩, by simp [exCall], rd_block h.b1 rfl rfl, ⟨⟨rfl, rfl, rfl, Rd.none_, by simp [rr1]⟩, trivial⟩, by simp [exCall]⟩
  · exact ⟨rd_block h.b2 rfl rfl, fun y hy => by
      obtain rfl : y = op2 := by simpa [exCall] using hy
      exact ⟨by decide, by decide⟩, by simp [exCall], rd_block h.b3 rfl rfl, ⟨⟨rfl, rfl, rfl, by rw [hA, hn, hc]; exact Rd.none_, by omega⟩, trivial⟩, by simp [exCall]⟩
theorem WK.start (w : World) : WK w (((((w.alloc (.cells op1.enc.toArray 64)).alloc (.cells rr1.enc.toArray 47)).alloc (.cells op2.enc.toArray 64)).alloc (.cells rr2.enc.toArray 47)).alloc (.cells ((exH w.heap.size rr2).flatMap CallR.enc).toArray 44)) rr2 := by
  obtain ⟨h, h0, h1, h2, h3, h4⟩ := alloc5 w (.cells op1.enc.toArray 64) (.cells rr1.enc.toArray 47) (.cells op2.enc.toArray 64) (.cells rr2.enc.toArray 47) (.cells ((exH w.heap.size rr2).flatMap CallR.enc).toArray 44)
  exact ⟨h, h0, h1, h2, h3, h4⟩
/-- The example, its result told right. -/
theorem WK.turn {w wr : World} (h : WK w wr rr2) : WK w ((((wr.setCell ⟨w.heap.size + 1 + 1 + 1, 0, none⟩ (.int .i64 0)).setCell ⟨w.heap.size + 1 + 1 + 1, 1, none⟩ (.int .i64 1)).setCell ⟨w.heap.size + 1 + 1 + 1, 2, none⟩ (.string tV)).setCell ⟨w.heap.size + 1 + 1 + 1, 3, none⟩ (.slice none 0 0)) rr3 := by
  have ne : ∀ (k : Nat), k ≠ w.heap.size + 1 + 1 + 1 → ((((wr.setCell ⟨w.heap.size + 1 + 1 + 1, 0, none⟩ (.int .i64 0)).setCell ⟨w.heap.size + 1 + 1 + 1, 1, none⟩ (.int .i64 1)).setCell ⟨w.heap.size + 1 + 1 + 1, 2, none⟩ (.string tV)).setCell ⟨w.heap.size + 1 + 1 + 1, 3, none⟩ (.slice none 0 0)).heap[k]? = wr.heap[k]? := fun k hk => by
    rw [Below.heap_setCell _ _ _ _ hk, Below.heap_setCell _ _ _ _ hk, Below.heap_setCell _ _ _ _ hk, Below.heap_setCell _ _ _ _ hk]
  have hle : w.heap.size ≤ w.heap.size + 1 + 1 + 1 := by omega
  refine ⟨(((h.below.setCell hle _).setCell hle _).setCell hle _).setCell hle _, (ne _ (by omega)).trans h.b0, (ne _ (by omega)).trans h.b1, (ne _ (by omega)).trans h.b2, ?_, (ne _ (by omega)).trans h.b4⟩
  have h3 := h.b3
  simp [World.setCell, Array.getElem?_modify, h3, rr2, rr3, RRes.enc]

theorem ints_lit (base : Nat) (W : World) (a b : Int) : Ints base (W.alloc (.cells #[.int .i64 a, .int .i64 b] 3)) (some ⟨W.heap.size, 0, none⟩) 2 2 [a, b] := ⟨Rd.new_ rfl rfl, by omega⟩
set_option maxHeartbeats 16000000 in
set_option maxRecDepth 100000 in
theorem works_calls (w : World) : Calls Try.prog 8 #[] w fun e w' => e = .returned (.bool true) ∧ Below w.heap.size w w' := by
  have K0 := Asd.mk (WK.start w)
  have JC : Asd (∀ (q : RRes) (W : World) (B : Option Addr) (k cb : Nat) (os : List Int), WK w W q → q.A = none ∧ q.n = 0 ∧ q.c = 0 → Ints w.heap.size W B k cb os → Calls Try.prog 15 #[.slice (some ⟨w.heap.size + 1 + 1 + 1 + 1, 0, none⟩) 2 2, .slice B k cb] W fun e w' => e = .returned (.agg #[.int .i64 (judgeP (exH w.heap.size q) os).1, .int .i64 (judgeP (exH w.heap.size q) os).2]) ∧ Below W.heap.size W w') :=
    ⟨fun q W B k cb os h hq ho => Judge_calls (h.hist hq) ho h.below.size⟩
  have SC : Asd (∀ (q : RRes) (W : World), WK w W q → q.A = none ∧ q.n = 0 ∧ q.c = 0 → Calls Try.prog 9 #[.slice (some ⟨w.heap.size + 1 + 1 + 1 + 1, 0, none⟩) 2 2] W (SearchPost w.heap.size W (exH w.heap.size q))) :=
    ⟨fun q W h hq => Search_calls (h.hist hq) h.below.size⟩
  go_enter Try.func8, Try.ntmps8
  go_upto_region 2 with fail
  have hw1 : ∃ W1, (((((w.alloc (.cells op1.enc.toArray 64)).alloc (.cells rr1.enc.toArray 47)).alloc (.cells op2.enc.toArray 64)).alloc (.cells rr2.enc.toArray 47)).alloc (.cells ((exH w.heap.size rr2).flatMap CallR.enc).toArray 44)) = W1 := ⟨_, rfl⟩
  obtain ⟨w1, hw1⟩ := hw1
  rw [hw1] at K0
  simp only [op1, op2, rr1, rr2, OpR.enc, RRes.enc, exH, exCall, CallR.enc, List.flatMap_cons, List.flatMap_nil, List.cons_append, List.nil_append, List.append_nil, tK, tV, tE] at hw1
  rw [hw1]
  clear hw1
  go_wp2_with fail
  have K1 := Asd.mk (K0.out.next ((Below.refl w1.heap.size w1).alloc (Nat.le_refl _) (.cells #[.int .i64 0, .int .i64 1] 3)))
  have j1 := JC.out rr2 _ _ _ _ _ K1.out ⟨rfl, rfl, rfl⟩ (ints_lit _ w1 0 1)
  rw [exJ1] at j1
  refine j1.mono ?_
  clear j1
  rintro e w2 ⟨rfl, hb2⟩
  have K2 := Asd.mk (K1.out.next hb2)
  clear hb2 K0 K1
  go_wp2_with fail
  have K3 := Asd.mk (K2.out.next ((Below.refl w2.heap.size w2).alloc (Nat.le_refl _) (.cells #[.int .i64 1, .int .i64 0] 3)))
  have j1 := JC.out rr2 _ _ _ _ _ K3.out ⟨rfl, rfl, rfl⟩ (ints_lit _ w2 1 0)
  rw [exJ2] at j1
  refine j1.mono ?_
  clear j1
  rintro e w3 ⟨rfl, hb3⟩
  have K4 := Asd.mk (K3.out.next hb3)
  clear hb3 K2 K3
  go_wp2_with fail
  have j1 := SC.out rr2 _ K4.out ⟨rfl, rfl, rfl⟩
  unfold SearchPost at j1
  rw [exS1] at j1
  refine j1.mono ?_
  clear j1
  rintro e w4 ⟨hb4, B, k, cb, rfl, hI4⟩
  have K5 := Asd.mk (K4.out.next hb4)
  clear hb4 K4 hI4
  have c17 : w4.cell? ⟨w.heap.size + 1 + 1 + 1 + 1, 17, none⟩ = some (.slice (some ⟨w.heap.size + 1 + 1 + 1, 0, none⟩) 1 1) := (cell_of_row _ _ 17 _ _ _ K5.out.b4).trans rfl
  have r0 : w4.cell? ⟨w.heap.size + 1 + 1 + 1, 0, none⟩ = some (.int .i64 91) := (cell_of_row _ _ 0 _ _ _ K5.out.b3).trans rfl
  have r1 : w4.cell? ⟨w.heap.size + 1 + 1 + 1, 1, none⟩ = some (.int .i64 0) := (cell_of_row _ _ 1 _ _ _ K5.out.b3).trans rfl
  have r2 : w4.cell? ⟨w.heap.size + 1 + 1 + 1, 2, none⟩ = some (.string ⟨#[]⟩) := (cell_of_row _ _ 2 _ _ _ K5.out.b3).trans rfl
  have r3 : w4.cell? ⟨w.heap.size + 1 + 1 + 1, 3, none⟩ = some (.slice none 0 0) := (cell_of_row _ _ 3 _ _ _ K5.out.b3).trans rfl
  have rf : ∀ i, w4.frozen? ⟨w.heap.size + 1 + 1 + 1, i, none⟩ = false := fun i => by simp [World.frozen?, K5.out.b3]
  go_upto_region 6 with fail
  have K6 := Asd.mk K5.out.turn
  clear c17 r0 r1 r2 r3 rf K5
  have hw6 : ∃ W6, ((((w4.setCell ⟨w.heap.size + 1 + 1 + 1, 0, none⟩ (.int .i64 0)).setCell ⟨w.heap.size + 1 + 1 + 1, 1, none⟩ (.int .i64 1)).setCell ⟨w.heap.size + 1 + 1 + 1, 2, none⟩ (.string tV)).setCell ⟨w.heap.size + 1 + 1 + 1, 3, none⟩ (.slice none 0 0)) = W6 := ⟨_, rfl⟩
  obtain ⟨w6, hw6⟩ := hw6
  rw [hw6] at K6
  simp only [tV] at hw6
  rw [hw6]
  clear hw6
  go_wp2_with fail
  have j1 := SC.out rr3 _ K6.out ⟨rfl, rfl, rfl⟩
  unfold SearchPost at j1
  rw [exS2] at j1
  refine j1.mono ?_
  clear j1
  rintro e w7 ⟨hb7, B7, k7, cb7, rfl, hI7⟩
  have K7 := Asd.mk (K6.out.next hb7)
  have I7 := Asd.mk hI7
  clear hb7 K6 hI7
  go_wp2_with fail
  have K8 := Asd.mk (K7.out.next ((Below.refl w7.heap.size w7).alloc (Nat.le_refl _) (.cells #[.int .i64 0, .int .i64 1] 3)))
  have si := SameInts_calls (base := w.heap.size) (I7.out.below ((Below.refl w7.heap.size w7).alloc (Nat.le_refl _) (.cells #[.int .i64 0, .int .i64 1] 3))).rd (ints_lit _ w7 0 1).rd I7.out.big
  rw [decide_eq_true rfl] at si
  refine si.mono ?_
  clear si
  rintro e w8 ⟨rfl, q8, rfl⟩
  have K9 := Asd.mk (K8.out.next (w' := (w7.alloc (.cells #[.int .i64 0, .int .i64 1] 3)).drewN q8) ⟨rfl, rfl, rfl, Nat.le_refl _, fun _ _ => rfl⟩)
  clear K7 K8
  generalize (w7.alloc (.cells #[.int .i64 0, .int .i64 1] 3)).drewN q8 = w9 at K9 ⊢
  go_wp2_with fail
  have K10 := Asd.mk (K9.out.next ((Below.refl w9.heap.size w9).alloc (Nat.le_refl _) (.cells #[.int .i64 0, .int .i64 1] 3)))
  have j1 := JC.out rr3 _ _ _ _ _ K10.out ⟨rfl, rfl, rfl⟩ (ints_lit _ w9 0 1)
  rw [exJ3] at j1
  refine j1.mono ?_
  clear j1
  rintro e w11 ⟨rfl, hb11⟩
  have K11 := Asd.mk (K10.out.next hb11)
  clear hb11 K9 K10
  go_wp2_with fail
  go_ret
  exact ⟨rfl, K11.out.below⟩

end Go.Proofs.Ytlhjfblpinpjiaa

/- num, text, whole; op.open. op.result, op.reply: may a reply be? Results that have no rows. op.reply; op.EncodeReply. -/
import Derived.Test.YtallnibjmffahaaGreatDoorJ17
set_option linter.unusedVariables false
set_option linter.unusedSimpArgs false
namespace Go.Proofs.YtallnibjmffahaaGreatDoor
open Go.RowKit

theorem rfield_calls {base : Nat} {w : World} {g : Nat} {l : List FieldR} {ok : Bool} (t : Bool) (h : Rr base w g l ok) (hbs : base ≤ w.heap.size) :
    Calls Tryz.prog 68 #[.pointer (some ⟨g, 0, none⟩), .bool t] w fun e w' => e = .returned (.agg #[.bool (fldP t l ok).v.text, .int .i64 (fldP t l ok).v.n, .string (fldP t l ok).v.s]) ∧ Rr base w' g (fldP t l ok).l (fldP t l ok).ok ∧ Kq rdS base w w' := by
  cases l with
  | nil => exact rfield_nil t h hbs
  | cons f l =>
    obtain ⟨ft, fn, fs⟩ := f
    unfold fldP
    simp only
    by_cases h1 : ft = t
    · cases hb : (decide (0 ≤ fn) && decide (fn ≤ 1099511627776)) with
      | false =>
        rw [if_pos (by right; simpa using hb)]
        exact rfield_range ft t fn fs h hbs h1 hb
      | true =>
        rw [if_neg (by rintro (h2 | h2); exact h2 h1; exact h2 (by simpa using hb))]
        have := rfield_good ft t fn fs h hbs h1 hb
        rw [h1]
        exact this
    · rw [if_pos (.inl h1)]
      exact rfield_text ft t fn fs h hbs h1
def numP (l : List FieldR) (ok : Bool) : RdR Int := ⟨(fldP false l ok).v.n, (fldP false l ok).l, (fldP false l ok).ok⟩
def txtP (l : List FieldR) (ok : Bool) : RdR ByteArray := ⟨(fldP true l ok).v.s, (fldP true l ok).l, (fldP true l ok).ok⟩

set_option maxHeartbeats 4000000 in
set_option maxRecDepth 100000 in
theorem rnum_calls {base : Nat} {w : World} {g : Nat} {l : List FieldR} {ok : Bool} (h : Rr base w g l ok) (hbs : base ≤ w.heap.size) :
    Calls Tryz.prog 50 #[.pointer (some ⟨g, 0, none⟩)] w fun e w' => e = .returned (.int .i64 (numP l ok).v) ∧ Rr base w' g (numP l ok).l (numP l ok).ok ∧ Kq rdS base w w' := by
  have C := Asd.mk (rfield_calls false h hbs)
  have hfl := fun w => run_field_n (fldP false l ok).v.text (fldP false l ok).v.n (fldP false l ok).v.s w
  clear h
  go_enter Tryz.func50, Tryz.ntmps50
  go_wp2_with fail
  refine C.out.mono ?_
  rintro e w2 ⟨rfl, h1, h2⟩
  have H := Asd.mk (And.intro h1 h2)
  clear h1 h2
  go_wp2_with fail
  go_ret
  exact ⟨rfl, H.out⟩
set_option maxHeartbeats 4000000 in
set_option maxRecDepth 100000 in
theorem rtext_calls {base : Nat} {w : World} {g : Nat} {l : List FieldR} {ok : Bool} (h : Rr base w g l ok) (hbs : base ≤ w.heap.size) :
    Calls Tryz.prog 51 #[.pointer (some ⟨g, 0, none⟩)] w fun e w' => e = .returned (.string (txtP l ok).v) ∧ Rr base w' g (txtP l ok).l (txtP l ok).ok ∧ Kq rdS base w w' := by
  have C := Asd.mk (rfield_calls true h hbs)
  have hfl := fun w => run_field_s (fldP true l ok).v.text (fldP true l ok).v.n (fldP true l ok).v.s w
  clear h
  go_enter Tryz.func51, Tryz.ntmps51
  go_wp2_with fail
  refine C.out.mono ?_
  rintro e w2 ⟨rfl, h1, h2⟩
  have H := Asd.mk (And.intro h1 h2)
  clear h1 h2
  go_wp2_with fail
  go_ret
  exact ⟨rfl, H.out⟩
set_option maxHeartbeats 4000000 in
set_option maxRecDepth 100000 in
theorem rwhole_calls {base : Nat} {w : World} {g : Nat} {l : List FieldR} {ok : Bool} (h : Rr base w g l ok) :
    Calls Tryz.prog 52 #[.pointer (some ⟨g, 0, none⟩)] w fun e w' => e = .returned (.bool (ok && decide (l.length = 0))) ∧ w' = w := by
  obtain ⟨⟨A, n, c, hG, hR⟩, hge⟩ := h
  have hn := hR.count (enc := FieldR.enc) (fun _ => rfl) (by omega)
  have g0 := (cell_of_row w g 0 _ _ _ hG).trans rfl
  have g1 := (cell_of_row w g 1 _ _ _ hG).trans rfl
  have gl : g < w.heap.size := (Array.getElem?_eq_some_iff.1 hG).1
  rw [hn]
  clear hG hR hge hn
  by_cases h0 : n = 0
  · subst h0
    cases ok
    all_goals
      go_enter Tryz.func52, Tryz.ntmps52
      go_wp2_with fail
      go_ret
      exact ⟨rfl, rfl⟩
  · have h1 : ¬ (n : Int) = 0 := by omega
    have h2 : ((n : Int) == 0) = false := by simpa using h1
    rw [decide_eq_false h0]
    cases ok
    all_goals
      go_enter Tryz.func52, Tryz.ntmps52
      go_wp2_with fail
      go_ret
      exact ⟨rfl, rfl⟩
/-- What open answers: a reader of these fields, or an error. -/
def OpenPost (w : World) (b : ByteArray) (e : Ending) (w' : World) : Prop :=
  Below w.heap.size w w' ∧ ((262144 < b.size ∧ e = .returned (.tuple #[.pointer none, .int .i64 2])) ∨ (¬ 262144 < b.size ∧ (decP b).code ≠ 0 ∧ e = .returned (.tuple #[.pointer none, .int .i64 80])) ∨
    (¬ 262144 < b.size ∧ (decP b).code = 0 ∧ ∃ g, e = .returned (.tuple #[.pointer (some ⟨g, 0, none⟩), .int .i64 0]) ∧ Rr w.heap.size w' g (decP b).l true))
theorem decGo_zero (n : Nat) (rest : ByteArray) : ∀ (out : List FieldR), (decGo n rest out).code = 0 → (decGo n rest out).at_ = 0 := by
  induction hs : rest.size using Nat.strongRecOn generalizing rest with
  | _ m ih =>
    intro out h
    rw [decGo] at h ⊢
    split at h
    · rename_i h0; rw [dif_pos h0]
    · rename_i h0
      rw [dif_neg h0]
      split at h
      · cases h
      · rename_i h1
        rw [if_neg h1]
        split at h
        · rename_i h2
          rw [dif_pos h2]
          exact ih _ (by rw [← hs]; exact fieldP_less h2 (by omega)) _ rfl _ h
        · rename_i h2
          exact absurd h h2
theorem decP_zero (b : ByteArray) (h : (decP b).code = 0) : (decP b).at_ = 0 := by
  unfold decP at h ⊢
  split at h
  · cases h
  · rename_i h0
    rw [if_neg h0]
    exact decGo_zero _ _ _ h

set_option maxHeartbeats 4000000 in
set_option maxRecDepth 100000 in
theorem open_calls (b : ByteArray) (w : World) : Calls Tryz.prog 49 #[.string b] w (OpenPost w b) := by
  have C := Asd.mk (Decode_calls b w)
  have DZ := Asd.mk (decP_zero b)
  by_cases hbig : 262144 < b.size
  · have hb2 : (262144 : Int) < (b.size : Int) := by omega
    go_enter Tryz.func49, Tryz.ntmps49
    go_wp2_with fail
    refine C.out.mono ?_
    rintro e w2 ⟨A, n, c, rfl, hO, hb⟩
    have B2 := Asd.mk (hb.alloc hb.size (.cells #[.int .i64 (decP b).at_, .int .i64 (decP b).code] 49))
    clear hO hb
    go_wp2_with fail
    go_ret2
    exact ⟨B2.out, .inl ⟨hbig, rfl⟩⟩
  · have hb2 : ¬ (262144 : Int) < (b.size : Int) := by omega
    by_cases hc : (decP b).code = 0
    · have ha := DZ.out hc
      have HC := Asd.mk hc
      go_enter Tryz.func49, Tryz.ntmps49
      go_wp2_with fail
      refine C.out.mono ?_
      rintro e w2 ⟨A, n, c, rfl, hO, hb⟩
      rw [ha, hc]
      have O2 := Asd.mk (hO.alloc (.cells #[.int .i64 0, .int .i64 0] 49))
      have B2 := Asd.mk (hb.alloc hb.size (.cells #[.int .i64 0, .int .i64 0] 49))
      have F2 := Asd.mk (heap_alloc_new w2 (.cells #[.int .i64 0, .int .i64 0] 49))
      clear hO hb ha hc
      go_upto_region 2 with fail
      obtain ⟨fb, hfb⟩ : ∃ fb, fb = w2.heap.size := ⟨_, rfl⟩
      rw [← hfb] at F2 ⊢
      generalize w2.alloc (.cells #[.int .i64 0, .int .i64 0] 49) = w3 at O2 B2 F2 ⊢
      clear hfb
      have f0 := (cell_of_row w3 fb 0 _ _ _ F2.out).trans rfl
      have f1 := (cell_of_row w3 fb 1 _ _ _ F2.out).trans rfl
      have RR : Asd (Rr w.heap.size (w3.alloc (.cells #[.slice A n c, .bool true] 128)) w3.heap.size (decP b).l true) := ⟨⟨⟨A, n, c, heap_alloc_new w3 _, by
        obtain ⟨A', c', e', hr⟩ := Rd.of_own (base := w.heap.size) O2.out
        injection e' with e1 _ e2
        subst e1 e2
        exact hr.alloc _⟩, B2.out.size⟩⟩
      have B3 := Asd.mk (B2.out.alloc B2.out.size (.cells #[.slice A n c, .bool true] 128))
      go_wp2_with fail
      go_ret2
      exact ⟨B3.out, .inr (.inr ⟨hbig, HC.out, w3.heap.size, rfl, RR.out⟩)⟩
    · have HC := Asd.mk hc
      have hc2 : ((decP b).code == 0) = false := by simpa using hc
      go_enter Tryz.func49, Tryz.ntmps49
      go_wp2_with fail
      refine C.out.mono ?_
      rintro e w2 ⟨A, n, c, rfl, hO, hb⟩
      generalize (decP b).at_ = fa
      generalize (decP b).code = fc at hc hc2
      have B2 := Asd.mk (hb.alloc hb.size (.cells #[.int .i64 fa, .int .i64 fc] 49))
      have F2 := Asd.mk (heap_alloc_new w2 (.cells #[.int .i64 fa, .int .i64 fc] 49))
      clear hO hb
      go_upto_region 2 with fail
      obtain ⟨fb, hfb⟩ : ∃ fb, fb = w2.heap.size := ⟨_, rfl⟩
      rw [← hfb] at F2 ⊢
      generalize w2.alloc (.cells #[.int .i64 fa, .int .i64 fc] 49) = w3 at B2 F2 ⊢
      clear hfb
      have f0 := (cell_of_row w3 fb 0 _ _ _ F2.out).trans rfl
      have f1 := (cell_of_row w3 fb 1 _ _ _ F2.out).trans rfl
      go_wp2_with fail
      go_ret2
      exact ⟨B2.out, .inr (.inl ⟨hbig, HC.out, rfl⟩)⟩
end Go.Proofs.YtallnibjmffahaaGreatDoor

set_option linter.unusedVariables false
set_option linter.unusedSimpArgs false
namespace Go.Proofs.YtallnibjmffahaaGreatDoor
open Go.RowKit

/-- A result without rows. -/
structure ResS where
  code : Int
  stamp : Int
  val : ByteArray
instance : Inhabited ResS := ⟨⟨0, 0, ⟨#[]⟩⟩⟩
/-- Its words in memory: the slice of rows is empty. -/
structure ResW where
  r : ResS
  A : Option Addr
  c : Nat
instance : Inhabited ResW := ⟨⟨default, none, 0⟩⟩
def ResW.enc (q : ResW) : List Value := [.int .i64 q.r.code, .int .i64 q.r.stamp, .string q.r.val, .slice q.A 0 q.c]
def rwCells (l : List ResW) : List Value := l.flatMap ResW.enc
def resOk (r : ResS) : Bool := (decide (0 ≤ r.code) && decide (r.code ≤ 300)) && numOk r.stamp 0 && decide ((r.val.size : Int) ≤ 8192)
def replyOk (cl sq at_ code : Int) (rs : List ResS) : Bool :=
  (decide (0 ≤ cl) && decide (cl ≤ 1000)) && (decide (1 ≤ sq) && decide (sq ≤ 1048576)) &&
    (if rs.length = 0 then (decide (0 ≤ at_) && decide (at_ ≤ 32)) && (decide (1 ≤ code) && decide (code ≤ 300))
     else decide (rs.length ≤ 32) && (decide (at_ = 0) && decide (code = 0)) && !rs.any (fun r => !resOk r))

set_option maxHeartbeats 4000000 in
set_option maxRecDepth 100000 in
/-- Among no rows there is none. -/
theorem ContainsRow_none (A : Option Addr) (c : Nat) (f : Value) (w : World) :
    Calls Tryz.prog 86 #[.slice A 0 c, f] w fun e w' => e = .returned (.bool false) ∧ w' = w := by
  have IX : Asd (∀ W, Calls Tryz.prog 102 #[.slice A 0 c, f] W fun e w' => e = .returned (.int .i64 (-1)) ∧ w' = W) := ⟨fun W => by
    go_enter Tryz.func102, Tryz.ntmps102
    go_wp2_with fail
    go_loopw [8] (fun s8 wr => s8 = .int .i64 0 ∧ Asd (wr = W)) (fun _ _ => 0)
    case atStart => exact ⟨rfl, ⟨rfl⟩⟩
    case round =>
      obtain ⟨rfl, HW⟩ := hrel
      have h := HW.out
      subst h
      go_wp2_with fail
      go_ret
      exact ⟨rfl, by first | rfl | trivial⟩⟩
  go_enter Tryz.func86, Tryz.ntmps86
  go_wp2_with fail
  refine (IX.out _).mono ?_
  rintro e w' ⟨rfl, rfl⟩
  go_wp2_with fail
  go_ret
  exact ⟨rfl, rfl⟩

set_option maxHeartbeats 4000000 in
set_option maxRecDepth 100000 in
theorem result_calls (q : ResW) (w : World) :
    Calls Tryz.prog 71 #[.agg q.enc.toArray] w fun e w' => e = .returned (.bool (resOk q.r)) ∧ Below w.heap.size w w' := by
  obtain ⟨⟨code, stamp, val⟩, A, c⟩ := q
  have hal := (Below.refl w.heap.size w).alloc (Nat.le_refl _) (.cells #[.int .i64 code, .int .i64 stamp, .string val, .slice A 0 c] 81)
  have B1 := Asd.mk hal
  have H1 := Asd.mk (heap_alloc_new w (.cells #[.int .i64 code, .int .i64 stamp, .string val, .slice A 0 c] 81))
  have CR := Asd.mk (fun W => ContainsRow_none A c (.func (.func 87) #[] #[]) W)
  have IC : Asd (∀ (x lo hi : Int) (b : Bool), (decide (lo ≤ x) && decide (x ≤ hi)) = b → ∀ W, Calls Tryz.prog 40 #[.int .i64 x, .int .i64 lo, .int .i64 hi] W fun e w' => e = .returned (.bool b) ∧ W = w') := ⟨fun x lo hi b hb W => by
    have h := op_in x lo hi W
    rwa [hb] at h⟩
  clear hal
  unfold ResW.enc resOk numOk
  simp only
  obtain ⟨b1, hb1⟩ : ∃ b, (decide (0 ≤ code) && decide (code ≤ 300)) = b := ⟨_, rfl⟩
  obtain ⟨b2, hb2⟩ : ∃ b, (decide (0 ≤ stamp) && decide (stamp ≤ 1099511627776)) = b := ⟨_, rfl⟩
  rw [hb1, hb2]
  have I1 := Asd.mk (fun W => IC.out _ _ _ _ hb1 W)
  have I2 := Asd.mk (fun W => IC.out _ _ _ _ hb2 W)
  clear hb1 hb2 IC
  have t1 : True := trivial
  have HV : Asd ((val.size : Int) ≤ 8192 ∨ ¬ (val.size : Int) ≤ 8192) := ⟨Decidable.em _⟩
  cases b1
  all_goals
    cases b2
    all_goals
     rcases HV.out with hv | hv
     all_goals
      go_enter Tryz.func71, Tryz.ntmps71
      go_upto_region 1 with fail
      generalize w.alloc (.cells #[.int .i64 code, .int .i64 stamp, .string val, .slice A 0 c] 81) = w1 at B1 H1 ⊢
      have x0 := (cell_of_row w1 w.heap.size 0 _ _ _ H1.out).trans rfl
      have x1 := (cell_of_row w1 w.heap.size 1 _ _ _ H1.out).trans rfl
      have x2 := (cell_of_row w1 w.heap.size 2 _ _ _ H1.out).trans rfl
      have x3 := (cell_of_row w1 w.heap.size 3 _ _ _ H1.out).trans rfl
      go_wp2_with (first
      | (go_at_call 86; refine (CR.out _).mono ?_; rintro e w4 ⟨rfl, hw4⟩; subst hw4)
      | (have _t := t1; go_at_call 40; refine (I1.out _).mono ?_; rintro e w4 ⟨rfl, rfl⟩; clear t1 _t)
      | (go_at_call 40; refine (I2.out _).mono ?_; rintro e w4 ⟨rfl, rfl⟩))
      go_ret
      exact ⟨by first | rfl | (simp [hv]; done) | (simp; omega), B1.out⟩
set_option maxHeartbeats 4000000 in
set_option maxRecDepth 100000 in
theorem reply1_calls (q : ResW) (w : World) :
    Calls Tryz.prog 70 #[.agg q.enc.toArray] w fun e w' => e = .returned (.bool (!resOk q.r)) ∧ Below w.heap.size w w' := by
  have hal := (Below.refl w.heap.size w).alloc (Nat.le_refl _) (.cells #[.int .i64 q.r.code, .int .i64 q.r.stamp, .string q.r.val, .slice q.A 0 q.c] 81)
  have B1 := Asd.mk hal
  have H1 := Asd.mk (heap_alloc_new w (.cells #[.int .i64 q.r.code, .int .i64 q.r.stamp, .string q.r.val, .slice q.A 0 q.c] 81))
  have RC := Asd.mk (fun W => result_calls q W)
  clear hal
  unfold ResW.enc at RC ⊢
  obtain ⟨b, hb⟩ : ∃ b, resOk q.r = b := ⟨_, rfl⟩
  rw [hb] at RC ⊢
  clear hb
  go_enter Tryz.func70, Tryz.ntmps70
  go_upto_region 1 with fail
  generalize w.alloc (.cells #[.int .i64 q.r.code, .int .i64 q.r.stamp, .string q.r.val, .slice q.A 0 q.c] 81) = w1 at B1 H1 ⊢
  have x0 := (cell_of_row w1 w.heap.size 0 _ _ _ H1.out).trans rfl
  have x1 := (cell_of_row w1 w.heap.size 1 _ _ _ H1.out).trans rfl
  have x2 := (cell_of_row w1 w.heap.size 2 _ _ _ H1.out).trans rfl
  have x3 := (cell_of_row w1 w.heap.size 3 _ _ _ H1.out).trans rfl
  go_wp2_with fail
  refine (RC.out _).mono ?_
  rintro e w2 ⟨rfl, hb2⟩
  have B2 := Asd.mk (B1.out.trans (hb2.mono B1.out.size))
  clear hb2
  go_wp2_with fail
  go_ret
  exact ⟨rfl, B2.out⟩

set_option maxHeartbeats 4000000 in
set_option maxRecDepth 100000 in
/-- slices.IndexFunc over results, by reply's look. -/
theorem IndexRes_calls {base : Nat} (w : World) (A : Option Addr) (n c : Nat) (l : List ResW) (hr : Rd base 81 w 4 A n c (rwCells l)) (hbig : n ≤ 140737488355328) :
    Calls Tryz.prog 85 #[.slice A n c, .func (.func 70) #[] #[]] w fun e w' => e = .returned (.int .i64 (fidx (fun q => !resOk q.r) l)) ∧ Below w.heap.size w w' := by
  have hn := hr.count (enc := ResW.enc) (fun _ => rfl) (by omega)
  have R := Asd.mk hr
  have C := Asd.mk reply1_calls
  have N := Asd.mk hn
  clear hr hn
  go_enter Tryz.func85, Tryz.ntmps85
  go_wp2_with fail
  go_loopw [5, 8] (fun _ s8 wr => ∃ k : Nat, s8 = .int .i64 k ∧ k ≤ n ∧ Asd (Below w.heap.size w wr) ∧ Asd (∀ j (hj : j < l.length), j < k → (!resOk l[j].r) = false)) (fun _ s8 _ => n - (intOf s8).toNat)
  case atStart => exact ⟨0, rfl, Nat.zero_le _, ⟨Below.refl _ _⟩, ⟨fun j _ h => absurd h (Nat.not_lt_zero _)⟩⟩
  case round =>
    obtain ⟨k, rfl, hkn, BW, I⟩ := hrel
    by_cases hlt : k < n
    · obtain ⟨b, off, rfl, hb, hl, hcs⟩ := (R.out.below BW.out).at_enc (enc := ResW.enc) (fun _ => rfl) (by omega) hlt
      have hcap : k < c := Nat.lt_of_lt_of_le hlt R.out.cap
      have hc := C.out l[k] wr
      generalize hy : l[k] = y at hcs hc
      have c0 := hcs 0 _ rfl
      have c1 := hcs 1 _ rfl
      have c2 := hcs 2 _ rfl
      have c3 := hcs 3 _ rfl
      rw [Nat.add_zero] at c0
      unfold ResW.enc at hc
      clear hcs
      have Y := Asd.mk hy
      clear hy
      have YQ : Asd (∀ q, (!resOk y.r) = q → (!resOk (l[k]'hl).r) = q) := ⟨fun q h => by rw [Y.out]; exact h⟩
      cases hq : (!resOk y.r) with
      | true =>
        rw [hq] at hc
        have Q := Asd.mk (YQ.out _ hq)
        clear hq
        go_wp2_with fail
        refine hc.mono ?_
        rintro e w' ⟨rfl, hb'⟩
        go_wp2_with fail
        go_ret
        exact ⟨by rw [fidx_hit (fun q : ResW => !resOk q.r) l k hl Q.out I.out]; rfl, BW.out.trans (hb'.mono BW.out.size)⟩
      | false =>
        rw [hq] at hc
        have Q := Asd.mk (YQ.out _ hq)
        clear hq
        go_wp2_with fail
        refine hc.mono ?_
        rintro e w' ⟨rfl, hb'⟩
        go_wp2_with fail
        go_roundw
        case measure => simp [intOf]; omega
        case rel =>
          refine ⟨k + 1, by go_num, by omega, ⟨BW.out.trans (hb'.mono BW.out.size)⟩, ⟨fun j hj hjk => ?_⟩⟩
          rcases Nat.lt_or_ge j k with h1 | h1
          · exact I.out j hj h1
          · obtain rfl : j = k := by omega
            exact Q.out
    · go_wp2_with fail
      go_ret
      refine ⟨?_, BW.out⟩
      have hany : (l.any fun q => !resOk q.r) = false := by
        rw [List.any_eq_false]
        intro x hx
        obtain ⟨j, hj, rfl⟩ := List.getElem_of_mem hx
        have := I.out j hj (by have := N.out; omega)
        simpa using this
      rw [fidx_none _ l hany]
      rfl
theorem any_map_r (l : List ResW) : (l.map ResW.r).any (fun r => !resOk r) = l.any (fun q => !resOk q.r) := by
  rw [List.any_map]
  rfl
set_option maxHeartbeats 4000000 in
set_option maxRecDepth 100000 in
theorem ContainsRes_calls {base : Nat} (w : World) (A : Option Addr) (n c : Nat) (l : List ResW) (hr : Rd base 81 w 4 A n c (rwCells l)) (hbig : n ≤ 140737488355328) (b : Bool) (hb : (l.any fun q => !resOk q.r) = b) :
    Calls Tryz.prog 69 #[.slice A n c, .func (.func 70) #[] #[]] w fun e w' => e = .returned (.bool b) ∧ Below w.heap.size w w' := by
  have IX := Asd.mk (IndexRes_calls w A n c l hr hbig)
  clear hr
  cases b with
  | true =>
    have h0 := fidx_any _ l hb
    generalize fidx (fun q : ResW => !resOk q.r) l = z at h0 IX
    clear hb
    go_enter Tryz.func69, Tryz.ntmps69
    go_wp2_with fail
    refine IX.out.mono ?_
    rintro e w' ⟨rfl, hb'⟩
    go_wp2_with fail
    go_ret
    exact ⟨rfl, hb'⟩
  | false =>
    have h0 := fidx_none _ l hb
    rw [h0] at IX
    clear hb h0
    go_enter Tryz.func69, Tryz.ntmps69
    go_wp2_with fail
    refine IX.out.mono ?_
    rintro e w' ⟨rfl, hb'⟩
    go_wp2_with fail
    go_ret
    exact ⟨rfl, hb'⟩
end Go.Proofs.YtallnibjmffahaaGreatDoor

set_option linter.unusedVariables false
set_option linter.unusedSimpArgs false
namespace Go.Proofs.YtallnibjmffahaaGreatDoor
open Go.RowKit

/-- op.in by its answer. -/
def InC : Prop := ∀ (x lo hi : Int) (b : Bool), (decide (lo ≤ x) && decide (x ≤ hi)) = b → ∀ W, Calls Tryz.prog 40 #[.int .i64 x, .int .i64 lo, .int .i64 hi] W fun e w' => e = .returned (.bool b) ∧ W = w'
theorem inC : InC := fun x lo hi b hb W => by
  have h := op_in x lo hi W
  rwa [hb] at h
set_option maxHeartbeats 8000000 in
set_option maxRecDepth 100000 in
theorem reply_calls {base : Nat} {w : World} (cl sq at_ code : Int) {A : Option Addr} {n c : Nat} {qs : List ResW} (hr : Rd base 81 w 4 A n c (rwCells qs)) (hbig : n ≤ 1000000) :
    Calls Tryz.prog 53 #[.agg #[.int .i64 cl, .int .i64 sq, .slice A n c, .int .i64 at_, .int .i64 code]] w fun e w' => e = .returned (.bool (replyOk cl sq at_ code (qs.map ResW.r))) ∧ Below w.heap.size w w' := by
  have hn := hr.count (enc := ResW.enc) (fun _ => rfl) (by omega)
  have hal := (Below.refl w.heap.size w).alloc (Nat.le_refl _) (.cells #[.int .i64 cl, .int .i64 sq, .slice A n c, .int .i64 at_, .int .i64 code] 51)
  have B1 := Asd.mk hal
  have H1 := Asd.mk (heap_alloc_new w (.cells #[.int .i64 cl, .int .i64 sq, .slice A n c, .int .i64 at_, .int .i64 code] 51))
  have CC := Asd.mk (fun W (h : Below w.heap.size w W) b hb => ContainsRes_calls W A n c qs (hr.below h) (by omega) b hb)
  have IC := Asd.mk inC
  have N := Asd.mk hn
  obtain ⟨ob, hob⟩ : ∃ ob, replyOk cl sq at_ code (qs.map ResW.r) = ob := ⟨_, rfl⟩
  rw [hob]
  unfold replyOk at hob
  rw [List.length_map, hn, any_map_r] at hob
  clear hal hr hn
  obtain ⟨b1, hb1⟩ : ∃ b, (decide (0 ≤ cl) && decide (cl ≤ 1000)) = b := ⟨_, rfl⟩
  obtain ⟨b2, hb2⟩ : ∃ b, (decide (1 ≤ sq) && decide (sq ≤ 1048576)) = b := ⟨_, rfl⟩
  rw [hb1, hb2] at hob
  have I1 := Asd.mk (fun W => IC.out _ _ _ _ hb1 W)
  have I2 := Asd.mk (fun W => IC.out _ _ _ _ hb2 W)
  clear hb1 hb2
  have t1 : True := trivial
  have OB := Asd.mk hob
  clear hob
  have start : True := trivial
  cases b1 with
  | false =>
    have ho : ob = false := by rw [← OB.out]; simp
    subst ho
    clear OB
    go_enter Tryz.func53, Tryz.ntmps53
    go_upto_region 1 with fail
    generalize w.alloc (.cells #[.int .i64 cl, .int .i64 sq, .slice A n c, .int .i64 at_, .int .i64 code] 51) = w1 at B1 H1 ⊢
    have x0 := (cell_of_row w1 w.heap.size 0 _ _ _ H1.out).trans rfl
    go_wp2_with (go_at_call 40; refine (I1.out _).mono ?_; rintro e w4 ⟨rfl, rfl⟩)
    go_ret
    exact ⟨rfl, B1.out⟩
  | true =>
    cases b2 with
    | false =>
      have ho : ob = false := by rw [← OB.out]; simp
      subst ho
      clear OB
      go_enter Tryz.func53, Tryz.ntmps53
      go_upto_region 1 with fail
      generalize w.alloc (.cells #[.int .i64 cl, .int .i64 sq, .slice A n c, .int .i64 at_, .int .i64 code] 51) = w1 at B1 H1 ⊢
      have x0 := (cell_of_row w1 w.heap.size 0 _ _ _ H1.out).trans rfl
      have x1 := (cell_of_row w1 w.heap.size 1 _ _ _ H1.out).trans rfl
      go_wp2_with (first | (have _t := t1; go_at_call 40; refine (I1.out _).mono ?_; rintro e w4 ⟨rfl, rfl⟩; clear t1 _t) | (go_at_call 40; refine (I2.out _).mono ?_; rintro e w4 ⟨rfl, rfl⟩))
      go_ret
      exact ⟨rfl, B1.out⟩
    | true =>
      by_cases hn0 : n = 0
      · obtain ⟨b3, hb3⟩ : ∃ b, (decide (0 ≤ at_) && decide (at_ ≤ 32)) = b := ⟨_, rfl⟩
        obtain ⟨b4, hb4⟩ : ∃ b, (decide (1 ≤ code) && decide (code ≤ 300)) = b := ⟨_, rfl⟩
        have hob := OB.out
        rw [if_pos hn0, hb3, hb4] at hob
        have I3 := Asd.mk (fun W => IC.out _ _ _ _ hb3 W)
        have I4 := Asd.mk (fun W => IC.out _ _ _ _ hb4 W)
        clear hb3 hb4 OB
        subst hn0
        have ho : ob = (b3 && b4) := by rw [← hob]; simp
        subst ho
        clear hob
        have t2 : True := trivial
        have t3 : True := trivial
        cases b3
        all_goals
          go_enter Tryz.func53, Tryz.ntmps53
          go_upto_region 1 with fail
          generalize w.alloc (.cells #[.int .i64 cl, .int .i64 sq, .slice A 0 c, .int .i64 at_, .int .i64 code] 51) = w1 at B1 H1 ⊢
          have x0 := (cell_of_row w1 w.heap.size 0 _ _ _ H1.out).trans rfl
          have x1 := (cell_of_row w1 w.heap.size 1 _ _ _ H1.out).trans rfl
          have x2 := (cell_of_row w1 w.heap.size 2 _ _ _ H1.out).trans rfl
          have x3 := (cell_of_row w1 w.heap.size 3 _ _ _ H1.out).trans rfl
          have x4 := (cell_of_row w1 w.heap.size 4 _ _ _ H1.out).trans rfl
          go_wp2_with (first
            | (have _t := t1; go_at_call 40; refine (I1.out _).mono ?_; rintro e w4 ⟨rfl, rfl⟩; clear t1 _t)
            | (have _t := t2; go_at_call 40; refine (I2.out _).mono ?_; rintro e w4 ⟨rfl, rfl⟩; clear t2 _t)
            | (have _t := t3; go_at_call 40; refine (I3.out _).mono ?_; rintro e w4 ⟨rfl, rfl⟩; clear t3 _t)
            | (go_at_call 40; refine (I4.out _).mono ?_; rintro e w4 ⟨rfl, rfl⟩))
          go_ret
          exact ⟨by first | rfl | simp, B1.out⟩
      · have hn1 : ¬ (n : Int) = 0 := by omega
        have hn2 : ((n : Int) == 0) = false := by simpa using hn1
        obtain ⟨b5, hb5⟩ : ∃ b, (qs.any fun q => !resOk q.r) = b := ⟨_, rfl⟩
        have hob := OB.out
        rw [if_neg hn0, hb5] at hob
        have C5 := Asd.mk (fun W h => CC.out W h b5 hb5)
        clear hb5 OB CC
        have HC : Asd ((n ≤ 32 ∧ at_ = 0 ∧ code = 0 ∧ ob = !b5) ∨ (¬ n ≤ 32 ∧ ob = false) ∨ (n ≤ 32 ∧ ¬ at_ = 0 ∧ ob = false) ∨ (n ≤ 32 ∧ at_ = 0 ∧ ¬ code = 0 ∧ ob = false)) := ⟨by
          by_cases h1 : n ≤ 32
          · by_cases h2 : at_ = 0
            · by_cases h3 : code = 0
              · left; exact ⟨h1, h2, h3, by rw [← hob]; simp [h1, h2, h3]⟩
              · right; right; right; exact ⟨h1, h2, h3, by rw [← hob]; simp [h3]⟩
            · right; right; left; exact ⟨h1, h2, by rw [← hob]; simp [h2]⟩
          · right; left; exact ⟨h1, by rw [← hob]; simp [h1]⟩⟩
        clear hob
        rcases HC.out with ⟨h1, rfl, rfl, rfl⟩ | ⟨h1, rfl⟩ | ⟨h1, h2, rfl⟩ | ⟨h1, rfl, h3, rfl⟩
        all_goals
          clear HC
          have h32 : (n : Int) ≤ 32 ∨ ¬ (n : Int) ≤ 32 := by omega
          have h4 : (n : Int) ≤ 32 ↔ n ≤ 32 := by omega
          have t2 : True := trivial
          go_enter Tryz.func53, Tryz.ntmps53
          go_upto_region 1 with fail
          generalize w.alloc (.cells #[.int .i64 cl, .int .i64 sq, .slice A n c, .int .i64 _, .int .i64 _] 51) = w1 at B1 H1 ⊢
          have x0 := (cell_of_row w1 w.heap.size 0 _ _ _ H1.out).trans rfl
          have x1 := (cell_of_row w1 w.heap.size 1 _ _ _ H1.out).trans rfl
          have x2 := (cell_of_row w1 w.heap.size 2 _ _ _ H1.out).trans rfl
          have x3 := (cell_of_row w1 w.heap.size 3 _ _ _ H1.out).trans rfl
          have x4 := (cell_of_row w1 w.heap.size 4 _ _ _ H1.out).trans rfl
          go_wp2_with (first
            | (have _t := t1; go_at_call 40; refine (I1.out _).mono ?_; rintro e w4 ⟨rfl, rfl⟩; clear t1 _t)
            | (have _t := t2; go_at_call 40; refine (I2.out _).mono ?_; rintro e w4 ⟨rfl, rfl⟩; clear t2 _t)
            | (go_at_call 69; refine (C5.out _ B1.out).mono ?_; rintro e w4 ⟨rfl, hb4⟩; have B1 := Asd.mk (B1.out.trans (hb4.mono B1.out.size)); clear hb4))
          go_ret
          exact ⟨by first | rfl | simp, B1.out⟩
end Go.Proofs.YtallnibjmffahaaGreatDoor

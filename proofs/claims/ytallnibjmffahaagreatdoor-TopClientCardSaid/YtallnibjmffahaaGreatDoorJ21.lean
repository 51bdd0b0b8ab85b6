/- op.DecodeReply, of what EncodeReply has written. What EncodeX has written, DecodeX reads: plain. ring.Hash of a text: some number. Weights of one chain: slices.Min, slices.Max, ring.Check, layout.Check. strconv.Itoa of zero; comparing uint64s: some answer. -/
import Derived.Test.YtallnibjmffahaaGreatDoorJ19
import Derived.Test.YtallnibjmffahaaGreatDoorJ20
set_option linter.unusedVariables false
set_option linter.unusedSimpArgs false
namespace Go.Proofs.YtallnibjmffahaaGreatDoor
open Go.RowKit

theorem rnum_hit {base : Nat} {w : World} {g : Nat} {l : List FieldR} {v : Int} (h0 : 0 ≤ v) (h1 : v ≤ 1099511627776) (h : Rr base w g (intF v :: l) true) (hbs : base ≤ w.heap.size) :
    Calls Tryz.prog 50 #[.pointer (some ⟨g, 0, none⟩)] w fun e w' => e = .returned (.int .i64 v) ∧ Rr base w' g l true ∧ Kq rdS base w w' := by
  have hc := rnum_calls h hbs
  have e : numP (intF v :: l) true = ⟨v, l, true⟩ := by
    unfold numP fldP intF
    simp only
    rw [if_neg (by rintro (h2 | h2); exact h2 rfl; exact h2 ⟨h0, h1⟩)]
  rw [e] at hc
  exact hc
theorem rtext_hit {base : Nat} {w : World} {g : Nat} {l : List FieldR} {s : ByteArray} (h : Rr base w g (txtF s :: l) true) (hbs : base ≤ w.heap.size) :
    Calls Tryz.prog 51 #[.pointer (some ⟨g, 0, none⟩)] w fun e w' => e = .returned (.string s) ∧ Rr base w' g l true ∧ Kq rdS base w w' := by
  have hc := rtext_calls h hbs
  have e : txtP (txtF s :: l) true = ⟨s, l, true⟩ := by
    unfold txtP fldP txtF
    simp only
    rw [if_neg (by rintro (h2 | h2); exact h2 rfl; exact h2 ⟨by omega, by omega⟩)]
  rw [e] at hc
  exact hc
def plainW (r : ResS) : ResW := ⟨r, none, 0⟩
theorem rw_one (l : List ResW) : ∀ u ∈ rwCells l, u.oneCell' = true := by
  intro u hu
  unfold rwCells at hu
  obtain ⟨r, _, hr⟩ := List.mem_flatMap.1 hu
  simp only [ResW.enc, List.mem_cons, List.not_mem_nil, or_false] at hr
  rcases hr with rfl | rfl | rfl | rfl <;> rfl
/-- What the loop keeps. -/
structure DrS (w w1 wr : World) (g xb : Nat) (cl sq at_ code : Int) (l : List FieldR) (A : Option Addr) (m d : Nat) (qs : List ResW) : Prop where
  below : Below w.heap.size w wr
  sz : w1.heap.size ≤ wr.heap.size
  rr : Rr w1.heap.size wr g l true
  res : wr.heap[w.heap.size]? = some (.cells #[.int .i64 0, .int .i64 0, .slice none 0 0, .int .i64 0, .int .i64 0] 51 (0, 0))
  x : wr.heap[xb]? = some (.cells #[.int .i64 cl, .int .i64 sq, .slice A m d, .int .i64 at_, .int .i64 code] 51 (0, 0))
  own : wr.ownsRow w.heap.size 81 4 (.slice A m d) m (rwCells qs)
section
variable {w w1 wr w' : World} {g xb : Nat} {cl sq at_ code : Int} {l l' : List FieldR} {A A' : Option Addr} {m d m' d' : Nat} {qs qs' : List ResW}
theorem DrS.step (h : DrS w w1 wr g xb cl sq at_ code l A m d qs) (hz : w.heap.size ≤ w1.heap.size) (h1 : Rr w1.heap.size w' g l' true) (k : Kq rdS w1.heap.size wr w') : DrS w w1 w' g xb cl sq at_ code l' A m d qs :=
  ⟨h.below.trans (k.below.mono hz), Nat.le_trans h.sz k.size, h1, k.blk h.res rfl, k.blk h.x rfl, k.own_ h.own rfl⟩
theorem DrS.next (h : DrS w w1 wr g xb cl sq at_ code l A m d qs) (hb : Below wr.heap.size wr w') : DrS w w1 w' g xb cl sq at_ code l A m d qs :=
  ⟨h.below.trans (hb.mono h.below.size), Nat.le_trans h.sz hb.size, rr_below h.rr hb, (hb.block _ (Array.getElem?_eq_some_iff.1 h.res).1).trans h.res, (hb.block _ (Array.getElem?_eq_some_iff.1 h.x).1).trans h.x, h.own.kept (gb_below hb none) (by cases (Value.slice A m d).ownBlock <;> simp)⟩
theorem DrS.put (h : DrS w w1 wr g xb cl sq at_ code l A m d qs) (hz : w.heap.size ≤ w1.heap.size) (hx : w1.heap.size ≤ xb) (hx2 : w1.heap.size = w.heap.size + 1) (k : Kp 81 w.heap.size wr w') (ho : w'.ownsRow w.heap.size 81 4 (.slice A' m' d') m' (rwCells qs')) :
    DrS w w1 (w'.setCell ⟨xb, 2, none⟩ (.slice A' m' d')) g xb cl sq at_ code l A' m' d' qs' := by
  have hX := k.blk h.x (by decide)
  have hR := k.blk h.res (by decide)
  obtain ⟨⟨RA, Rn, Rc, hG, hRd⟩, hge⟩ := h.rr
  have hG' := k.blk hG (by decide)
  have hgx : g ≠ xb := fun e => by
    subst e
    rw [h.x] at hG
    injection hG with hG
    injection hG with _ hG
    exact absurd hG (by decide)
  have hrx : w.heap.size ≠ xb := by omega
  have hlow : ∀ b : Nat, b < w1.heap.size → w'.heap[b]? = wr.heap[b]? := fun b hb => by
    rcases Nat.lt_or_ge b w.heap.size with h1 | h1
    · exact k.below.block b h1
    · obtain rfl : b = w.heap.size := by omega
      rw [hR, h.res]
  refine ⟨(h.below.trans k.below).setCell (Nat.le_trans hz hx) _, ?_, ⟨⟨RA, Rn, Rc, ?_, ?_⟩, hge⟩, ?_, ?_, ?_⟩
  · have := k.size; have := h.sz; simp [World.setCell]; omega
  · rw [Below.heap_setCell _ ⟨xb, 2, none⟩ _ g hgx]; exact hG'
  · have h1 : Rd w1.heap.size 94 w' 3 RA Rn Rc (fieldCells l) := hRd.keepT k.size (fun b hb => hlow b hb) (fun b cs fr hb => by rw [hb]; exact k.rest b _ hb (fun cs' fr' e => by injection e with _ e; exact absurd e (by decide)))
    exact h1.setCell (cs := #[.int .i64 cl, .int .i64 sq, .slice A m d, .int .i64 at_, .int .i64 code]) hX (by decide) hx _
  · rw [Below.heap_setCell _ ⟨xb, 2, none⟩ _ _ hrx]; exact hR
  · simp only [World.setCell, Array.getElem?_modify, hX, if_true, Option.map_some]
    rfl
  · exact ho.kept (gb_cell' _ _ _ _) (.inr fun e => by
      obtain ⟨⟨cs, fr, h2⟩, _⟩ := own_istM ho _ e
      rw [hX] at h2
      injection h2 with h2
      injection h2 with _ h2
      exact absurd h2 (by decide))
end
def DRepPost (w : World) (cl sq at_ code : Int) (rs : List ResS) (e : Ending) (w' : World) : Prop :=
  ∃ A n c, e = .returned (.tuple #[.agg #[.int .i64 cl, .int .i64 sq, .slice A n c, .int .i64 at_, .int .i64 code], .int .i64 0]) ∧ w'.ownsRow w.heap.size 81 4 (.slice A n c) n (rwCells (rs.map plainW)) ∧ Below w.heap.size w w'

set_option maxHeartbeats 16000000 in
set_option maxRecDepth 100000 in
theorem DecodeReply_calls (b : ByteArray) (w : World) {cl sq at_ code : Int} {rs : List ResS} (hok : replyOk cl sq at_ code rs = true) (h1 : ¬ 262144 < b.size) (h2 : decP b = ⟨repF cl sq at_ code rs, 0, 0⟩) :
    Calls Tryz.prog 30 #[.string b] w (DRepPost w cl sq at_ code rs) := by
  have hal := (Below.refl w.heap.size w).alloc (Nat.le_refl _) (.cells #[.int .i64 0, .int .i64 0, .slice none 0 0, .int .i64 0, .int .i64 0] 51)
  have B1 := Asd.mk hal
  have H1 := Asd.mk (heap_alloc_new w (.cells #[.int .i64 0, .int .i64 0, .slice none 0 0, .int .i64 0, .int .i64 0] 51))
  have C : Asd (∀ W, Calls Tryz.prog 49 #[.string b] W fun e w' => Below W.heap.size W w' ∧ ∃ g, e = .returned (.tuple #[.pointer (some ⟨g, 0, none⟩), .int .i64 0]) ∧ Rr W.heap.size w' g (repF cl sq at_ code rs) true) := ⟨fun W => (open_calls b W).mono (by
    rintro e w' ⟨h0, ⟨h3, _⟩ | ⟨_, h3, _⟩ | ⟨_, _, h3⟩⟩
    · exact absurd h3 h1
    · rw [h2] at h3; exact absurd rfl h3
    · rw [h2] at h3; exact ⟨h0, h3⟩)⟩
  have hz1 : w.heap.size ≤ (w.alloc (.cells #[.int .i64 0, .int .i64 0, .slice none 0 0, .int .i64 0, .int .i64 0] 51)).heap.size := by simp
  have hw1 : Asd ((w.alloc (.cells #[.int .i64 0, .int .i64 0, .slice none 0 0, .int .i64 0, .int .i64 0] 51)).heap.size = w.heap.size + 1) := ⟨by simp⟩
  obtain ⟨p1, p2, p3, p4, p5, p6⟩ := replyOk_parts hok
  have OK := Asd.mk hok
  have RO := Asd.mk p6
  have PN := Asd.mk (And.intro p1 (And.intro p2 (And.intro p3 p4)))
  clear hal h1 h2 hok p6 p1 p2 p3 p4
  go_enter Tryz.func30, Tryz.ntmps30
  go_upto_region 1 with fail
  generalize w.alloc (.cells #[.int .i64 0, .int .i64 0, .slice none 0 0, .int .i64 0, .int .i64 0] 51) = w1 at B1 H1 hz1 hw1 ⊢
  go_wp2_with fail
  refine (C.out _).mono ?_
  rintro e w2 ⟨hb2, g, rfl, hr2⟩
  have B2 := Asd.mk (B1.out.trans (hb2.mono B1.out.size))
  have H2 := Asd.mk ((hb2.block _ (Array.getElem?_eq_some_iff.1 H1.out).1).trans H1.out)
  have hz2 := hb2.size
  have RN := Asd.mk (rnum_hit (by have := PN.out; omega) (by have := PN.out; omega) hr2 hz2)
  clear hb2 hr2 C H1 B1
  go_wp2_with fail
  refine RN.out.mono ?_
  clear RN
  rintro e w3 ⟨rfl, hr3, hk3⟩
  have hz3 := Nat.le_trans hz2 hk3.size
  have K3 := Asd.mk hk3
  have RN := Asd.mk (rnum_hit (by have := PN.out; omega) (by have := PN.out; omega) hr3 hz3)
  clear hr3 hk3 hz2
  go_wp2_with fail
  refine RN.out.mono ?_
  clear RN
  rintro e w4 ⟨rfl, hr4, hk4⟩
  have hz4 := Nat.le_trans hz3 hk4.size
  have K4 := Asd.mk (K3.out.trans hk4)
  have RN := Asd.mk (rnum_hit (by have := PN.out; omega) (by have := PN.out; omega) hr4 hz4)
  clear hr4 hk4 hz3 K3
  go_wp2_with fail
  refine RN.out.mono ?_
  clear RN
  rintro e w5 ⟨rfl, hr5, hk5⟩
  have hz5 := Nat.le_trans hz4 hk5.size
  have K5 := Asd.mk (K4.out.trans hk5)
  have RN := Asd.mk (rnum_hit (by have := PN.out; omega) (by have := PN.out; omega) hr5 hz5)
  clear hr5 hk5 hz4 K4
  go_wp2_with fail
  refine RN.out.mono ?_
  clear RN
  rintro e w6 ⟨rfl, hr6, hk6⟩
  have hz6 := Nat.le_trans hz5 hk6.size
  have K6 := Asd.mk (K5.out.trans hk6)
  have R6 := Asd.mk hr6
  clear hr6 hk6 hz5 K5
  have B6 := Asd.mk (B2.out.trans (K6.out.below.mono hz1))
  have H6 := Asd.mk (K6.out.blk H2.out rfl)
  have hal : Below w6.heap.size w6 (w6.alloc (.cells #[.int .i64 cl, .int .i64 sq, .slice none 0 0, .int .i64 at_, .int .i64 code] 51)) := (Below.refl _ _).alloc (Nat.le_refl _) _
  have S7 : Asd (DrS w w1 (w6.alloc (.cells #[.int .i64 cl, .int .i64 sq, .slice none 0 0, .int .i64 at_, .int .i64 code] 51)) g w6.heap.size cl sq at_ code (intF rs.length :: rs.flatMap resF) none 0 0 []) :=
    ⟨⟨B6.out.trans (hal.mono (Nat.le_trans hz1 hz6)), Nat.le_trans hz6 hal.size, rr_below R6.out hal, (hal.block _ (Array.getElem?_eq_some_iff.1 H6.out).1).trans H6.out, heap_alloc_new w6 _, World.ownsRow_nil _ _ _ _⟩⟩
  clear hal K6 B6 H6 R6 B2 H2
  go_upto_region 5 with fail
  obtain ⟨xb, hxb⟩ : ∃ xb, xb = w6.heap.size := ⟨_, rfl⟩
  have hxw : w.heap.size ≤ xb := by omega
  have hxw1 : w1.heap.size ≤ xb := by omega
  rw [← hxb] at S7 ⊢
  generalize w6.alloc (.cells #[.int .i64 cl, .int .i64 sq, .slice none 0 0, .int .i64 at_, .int .i64 code] 51) = w7 at S7 ⊢
  clear hxb hz6
  have RN := Asd.mk (rnum_hit (by omega) (by omega) S7.out.rr S7.out.sz)
  go_wp2_with fail
  refine RN.out.mono ?_
  clear RN
  rintro e w8 ⟨rfl, hr8, hk8⟩
  have S8 := Asd.mk (S7.out.step hz1 hr8 hk8)
  clear hr8 hk8 S7
  obtain ⟨n, hn⟩ : ∃ n, n = rs.length := ⟨_, rfl⟩
  rw [← hn]
  rw [← hn] at p5
  have NN := Asd.mk hn
  clear hn
  have S9 : Asd (DrS w w1 w8 g xb cl sq at_ code ((rs.drop 0).flatMap resF) none 0 0 ((rs.take 0).map plainW)) := ⟨S8.out⟩
  clear S8
  go_wp2_with fail
  go_loopw [29] (fun s29 wr => ∃ (i d : Nat) (A : Option Addr), s29 = .int .i64 i ∧ i ≤ n ∧ Asd (DrS w w1 wr g xb cl sq at_ code ((rs.drop i).flatMap resF) A i d ((rs.take i).map plainW))) (fun s29 _ => n - (intOf s29).toNat)
  case atStart => exact ⟨0, 0, none, rfl, Nat.zero_le _, S9⟩
  case round =>
    obtain ⟨i, d, A, rfl, hi, SS⟩ := hrel
    clear S9
    by_cases hlt : i < n
    · have hil : i < rs.length := by have := NN.out; omega
      have hro := RO.out rs[i] (List.getElem_mem hil)
      have hdr : (rs.drop i).flatMap resF = resF rs[i] ++ (rs.drop (i + 1)).flatMap resF := by rw [List.drop_eq_getElem_cons hil, List.flatMap_cons]
      have htk : (rs.take (i + 1)).map plainW = (rs.take i).map plainW ++ [plainW rs[i]] := by rw [List.take_succ_eq_append_getElem hil, List.map_append]; rfl
      generalize rs[i] = r at hro hdr htk
      obtain ⟨xc, xs, xv⟩ := r
      rw [hdr] at SS
      have TK := Asd.mk htk
      obtain ⟨q1, q2, q3⟩ := resOk_parts hro
      simp only at q1 q2 q3
      have QQ := Asd.mk (And.intro q1 (And.intro q2 q3))
      clear hro hdr htk q1 q2 q3
      obtain ⟨⟨RA, Rn, Rc, hRG, _⟩, _⟩ := SS.out.rr
      have r1 := (cell_of_row wr g 1 _ _ _ hRG).trans rfl
      have rl : g < wr.heap.size := (Array.getElem?_eq_some_iff.1 hRG).1
      clear hRG
      have RN := Asd.mk (rnum_hit (by have := QQ.out; omega) (by have := QQ.out; omega) (v := xc) (l := intF xs :: txtF xv :: intF 0 :: (rs.drop (i + 1)).flatMap resF) SS.out.rr SS.out.sz)
      go_wp2_with fail
      refine RN.out.mono ?_
      clear RN r1 rl
      rintro e u1 ⟨rfl, hr1, hk1⟩
      have S1 := Asd.mk (SS.out.step hz1 hr1 hk1)
      clear hr1 hk1 SS
      have RN := Asd.mk (rnum_hit (by have := QQ.out; omega) (by have := QQ.out; omega) S1.out.rr S1.out.sz)
      go_wp2_with fail
      refine RN.out.mono ?_
      clear RN
      rintro e u2 ⟨rfl, hr2, hk2⟩
      have S2 := Asd.mk (S1.out.step hz1 hr2 hk2)
      clear hr2 hk2 S1
      have RN := Asd.mk (rtext_hit S2.out.rr S2.out.sz)
      go_wp2_with fail
      refine RN.out.mono ?_
      clear RN
      rintro e u3 ⟨rfl, hr3, hk3⟩
      have S3 := Asd.mk (S2.out.step hz1 hr3 hk3)
      clear hr3 hk3 S2
      have S4 := Asd.mk (S3.out.next ((Below.refl u3.heap.size u3).alloc (Nat.le_refl _) (.cells #[.int .i64 xc, .int .i64 xs, .string xv, .slice none 0 0] 81)))
      have Y4 := Asd.mk (heap_alloc_new u3 (.cells #[.int .i64 xc, .int .i64 xs, .string xv, .slice none 0 0] 81))
      have hyw : w.heap.size ≤ u3.heap.size := S3.out.below.size
      clear S3
      go_upto_region 9 with fail
      obtain ⟨yb, hyb⟩ : ∃ yb, yb = u3.heap.size := ⟨_, rfl⟩
      rw [← hyb] at Y4 hyw ⊢
      generalize u3.alloc (.cells #[.int .i64 xc, .int .i64 xs, .string xv, .slice none 0 0] 81) = u4 at S4 Y4 ⊢
      clear hyb
      have RN := Asd.mk (rnum_hit (by omega) (by omega) S4.out.rr S4.out.sz)
      go_wp2_with fail
      refine RN.out.mono ?_
      clear RN
      rintro e u5 ⟨rfl, hr5, hk5⟩
      have S5 := Asd.mk (S4.out.step hz1 hr5 hk5)
      have Y5 := Asd.mk (hk5.blk Y4.out rfl)
      clear hr5 hk5 S4 Y4
      go_wp2_with fail
      obtain ⟨u6, hu6⟩ : ∃ u6, u6 = u5 := ⟨_, rfl⟩
      go_loopw [45] (fun s45 wq => s45 = .int .i64 0 ∧ Asd (wq = u6)) (fun _ _ => 0)
      case atStart => exact ⟨rfl, ⟨hu6.symm⟩⟩
      case round =>
        obtain ⟨rfl, HQ⟩ := hrel
        have hq9 := HQ.out
        rw [hu6] at hq9
        subst hq9
        clear hu6 HQ
        have x2 := (cell_of_row wr xb 2 _ _ _ S5.out.x).trans rfl
        have y0 := (cell_of_row wr yb 0 _ _ _ Y5.out).trans rfl
        have y1 := (cell_of_row wr yb 1 _ _ _ Y5.out).trans rfl
        have y2 := (cell_of_row wr yb 2 _ _ _ Y5.out).trans rfl
        have y3 := (cell_of_row wr yb 3 _ _ _ Y5.out).trans rfl
        have hsz : w.heap.size ≤ wr.heap.size := S5.out.below.size
        go_wp2_with (at_builtin; refine wpList_append_mine (base := w.heap.size) (own := w.heap.size) (v := .slice A i d) (n := i) (m := 1) (xs := rwCells ((rs.take i).map plainW)) (ys := [.int .i64 xc, .int .i64 xs, .string xv, .slice none 0 0]) rfl (.tmp 66) (.tmp 68) 47 rfl elt_res rfl rfl (S5.out.own.alloc _) (Rd.new_ rfl rfl) (rw_one [plainW ⟨xc, xs, xv⟩]) (by unfold maxLen; omega) (by omega) (by simp; omega) ?_; intro v9 w9 O9' G9'; obtain ⟨A9, d9, rfl, _⟩ := Rd.of_own (base := w.heap.size) O9'; have K9' := (((Kp.refl 81 w.heap.size wr).alloc hsz (.cells #[.int .i64 xc, .int .i64 xs, .string xv, .slice none 0 0] 81)).trans (Kp.own (S5.out.own.alloc _) G9' (by simp; omega))); have z2 := (cell_of_row w9 xb 2 _ _ _ (K9'.blk S5.out.x (by decide))).trans rfl; have zf : w9.frozen? ⟨xb, 2, none⟩ = false := (by simp [World.frozen?, K9'.blk S5.out.x (by decide)]); have O9 := Asd.mk O9'; have K9 := Asd.mk K9'; clear O9' G9' K9')
        have O10 : Asd (w9.ownsRow w.heap.size 81 4 (.slice A9 (i + 1) d9) (i + 1) (rwCells ((rs.take (i + 1)).map plainW))) := ⟨by
          rw [TK.out]
          have := O9.out
          unfold rwCells at this ⊢
          rw [List.flatMap_append]
          simpa [plainW, ResW.enc] using this⟩
        have S10 := Asd.mk (S5.out.put hz1 hxw1 hw1.out K9.out O10.out)
        clear O9 O10 K9 z2 zf x2 y0 y1 y2 y3 S5 Y5
        go_roundw
        case measure => simp [intOf]; omega
        case rel => exact ⟨i + 1, d9, A9, by go_num, by omega, S10⟩
    · obtain rfl : i = n := by omega
      have hd0 : rs.drop i = [] := List.drop_of_length_le (by have := NN.out; omega)
      have ht0 : rs.take i = rs := List.take_of_length_le (by have := NN.out; omega)
      rw [hd0, ht0] at SS
      clear hd0 ht0
      have WC := Asd.mk (rwhole_calls SS.out.rr)
      have RD : Asd (Rd w.heap.size 81 wr 4 A i d (rwCells (rs.map plainW))) := ⟨by
        obtain ⟨A', c', e', hr⟩ := Rd.of_own (base := w.heap.size) SS.out.own
        injection e' with e1 _ e2
        subst e1 e2
        exact hr⟩
      have CK := reply_calls cl sq at_ code RD.out (by omega)
      have em : (rs.map plainW).map ResW.r = rs := by rw [List.map_map]; exact List.map_id' rs
      rw [em, OK.out] at CK
      have CK2 := Asd.mk CK
      have EM := Asd.mk em
      have FB2 := Asd.mk (fun W h => SS.out.next (w' := W) h)
      have y0 := (cell_of_row wr xb 0 _ _ _ SS.out.x).trans rfl
      have y1 := (cell_of_row wr xb 1 _ _ _ SS.out.x).trans rfl
      have y2 := (cell_of_row wr xb 2 _ _ _ SS.out.x).trans rfl
      have y3 := (cell_of_row wr xb 3 _ _ _ SS.out.x).trans rfl
      have y4 := (cell_of_row wr xb 4 _ _ _ SS.out.x).trans rfl
      clear CK em RD SS
      simp only [List.flatMap_nil, List.length_nil] at WC
      go_upto_if 79 with (first | (go_at_call 52; refine WC.out.mono ?_; rintro e w9 ⟨rfl, hw9⟩; subst hw9) | (go_at_call 53; refine CK2.out.mono ?_; rintro e w9 ⟨rfl, hb9⟩))
      have S9 := FB2.out _ hb9
      have h0 := (cell_of_row w9 w.heap.size 0 _ _ _ S9.res).trans rfl
      have h1 := (cell_of_row w9 w.heap.size 1 _ _ _ S9.res).trans rfl
      have h2 := (cell_of_row w9 w.heap.size 2 _ _ _ S9.res).trans rfl
      have h3 := (cell_of_row w9 w.heap.size 3 _ _ _ S9.res).trans rfl
      have h4 := (cell_of_row w9 w.heap.size 4 _ _ _ S9.res).trans rfl
      have hf : ∀ i, w9.frozen? ⟨w.heap.size, i, none⟩ = false := fun i => by simp [World.frozen?, S9.res]
      clear y0 y1 y2 y3 y4
      have y0 := (cell_of_row w9 xb 0 _ _ _ S9.x).trans rfl
      have y1 := (cell_of_row w9 xb 1 _ _ _ S9.x).trans rfl
      have y2 := (cell_of_row w9 xb 2 _ _ _ S9.x).trans rfl
      have y3 := (cell_of_row w9 xb 3 _ _ _ S9.x).trans rfl
      have y4 := (cell_of_row w9 xb 4 _ _ _ S9.x).trans rfl
      have J1 := Asd.mk S9.res
      have J3 := Asd.mk S9.own
      have J4 := Asd.mk S9.below
      clear S9 FB2 hb9 CK2 WC
      go_wp2_with fail
      refine bodyPost_ret (v := .tuple #[.agg #[.int .i64 cl, .int .i64 sq, .slice A i d, .int .i64 at_, .int .i64 code], .int .i64 0]) (by simp [results, Tryz.results30, go_sem, h0, h1, h2, h3, h4, hf]) rfl ?_
      refine ⟨A, i, d, rfl, J3.out.kept (gb_trans (gb_trans (gb_trans (gb_trans (gb_cell' _ _ _ _) (gb_cell' _ _ _ _)) (gb_cell' _ _ _ _)) (gb_cell' _ _ _ _)) (gb_cell' _ _ _ _)) (.inr fun e => by
        obtain ⟨⟨cs, fr, h2⟩, _⟩ := own_istM J3.out _ e
        rw [J1.out] at h2
        injection h2 with h2
        injection h2 with _ h2
        exact absurd h2 (by decide)), ((((J4.out.setCell (Nat.le_refl _) _).setCell (Nat.le_refl _) _).setCell (Nat.le_refl _) _).setCell (Nat.le_refl _) _).setCell (Nat.le_refl _) _⟩
end Go.Proofs.YtallnibjmffahaaGreatDoor

set_option linter.unusedVariables false
set_option linter.unusedSimpArgs false
namespace Go.Proofs.YtallnibjmffahaaGreatDoor
open Go.RowKit

theorem encP_size {l : List FieldR} {s : ByteArray} (h : encP l = (s, 0)) : ¬ 262144 < s.size := by
  unfold encP at h
  split at h
  · injection h with _ h; cases h
  · split at h
    · injection h with _ h; cases h
    · rename_i h2
      injection h with h _
      subst h
      have e : (⟨(encB l).toArray⟩ : ByteArray).size = (encB l).length := by rw [← byL_len, byL_mk]
      rw [e]; exact h2
theorem numP_hit {v : Int} (l : List FieldR) (h0 : 0 ≤ v) (h1 : v ≤ 1099511627776) : numP (intF v :: l) true = ⟨v, l, true⟩ := by
  unfold numP fldP intF
  simp only
  rw [if_neg (by rintro (h2 | h2); exact h2 rfl; exact h2 ⟨h0, h1⟩)]
theorem txtP_hit (s : ByteArray) (l : List FieldR) : txtP (txtF s :: l) true = ⟨s, l, true⟩ := by
  unfold txtP fldP txtF
  simp only
  rw [if_neg (by rintro (h2 | h2); exact h2 rfl; exact h2 ⟨by omega, by omega⟩)]
theorem opRd_hit {x : OpR} (h : opOk x = true) (l : List FieldR) : opRd (opF x ++ l) true = ⟨x, l, true⟩ := by
  obtain ⟨h1, h2, h3, h4, h5, h6⟩ := opOk_good h
  unfold opRd opF
  simp only [List.cons_append, List.nil_append]
  rw [numP_hit _ (by omega) (by omega)]
  simp only
  rw [txtP_hit]
  simp only
  rw [txtP_hit]
  simp only
  rw [numP_hit _ (by omega) (by omega)]
  simp only
  rw [numP_hit _ (by omega) (by omega)]
  simp only
  rw [numP_hit _ (by omega) (by omega)]
theorem opsRd_hit : ∀ (ops out : List OpR) (l : List FieldR), (∀ x ∈ ops, opOk x = true) → opsRd ops.length (ops.flatMap opF ++ l) true out = ⟨out ++ ops, l, true⟩ := by
  intro ops
  induction ops with
  | nil => intro out l _; simp [opsRd]
  | cons x ops ih =>
    intro out l h
    rw [List.length_cons, List.flatMap_cons, List.append_assoc, opsRd_succ, opRd_hit (h x (List.mem_cons_self ..))]
    simp only
    rw [ih _ _ fun y hy => h y (List.mem_cons_of_mem _ hy)]
    simp
/-- A request comes back out of its bytes. -/
theorem oround {cl sq : Int} {ops : List OpR} {s : ByteArray} (h : oencP cl sq ops = (s, 0)) : odecP s = ⟨cl, sq, ops, 0⟩ ∧ reqOk cl sq ops = true := by
  unfold oencP at h
  split at h
  · rename_i hok
    refine ⟨?_, hok⟩
    have h1 := encP_size h
    have h2 := dec_enc (good_req hok) h
    obtain ⟨p1, p2, p3, p4⟩ := reqOk_parts hok
    unfold odecP
    rw [if_neg h1, h2]
    simp only [ne_eq, not_true_eq_false, if_false]
    have e1 := numP_hit (v := cl) ([intF sq, intF ops.length] ++ ops.flatMap opF) (by omega) (by omega)
    have e2 := numP_hit (v := sq) ([intF ops.length] ++ ops.flatMap opF) (by omega) (by omega)
    have e3 := numP_hit (v := (ops.length : Int)) (ops.flatMap opF) (by omega) (by omega)
    have hr := opsRd_hit ops [] [] p4
    rw [List.append_nil] at hr
    unfold reqF
    simp only [List.cons_append, List.nil_append] at e1 e2 e3 hr ⊢
    simp only [e1, e2, e3, Int.toNat_natCast, hr]
    simp [hok]
  · injection h with _ h; cases h
/-- A reply's bytes, as Decode reads them. -/
theorem rround {cl sq at_ code : Int} {rs : List ResS} {s : ByteArray} (h : rencP cl sq at_ code rs = (s, 0)) : decP s = ⟨repF cl sq at_ code rs, 0, 0⟩ ∧ ¬ 262144 < s.size ∧ replyOk cl sq at_ code rs = true := by
  unfold rencP at h
  split at h
  · rename_i hok
    exact ⟨dec_enc (good_rep hok) h, encP_size h, hok⟩
  · injection h with _ h; cases h
end Go.Proofs.YtallnibjmffahaaGreatDoor

set_option linter.unusedVariables false
set_option linter.unusedSimpArgs false
namespace Go.Proofs.YtallnibjmffahaaGreatDoor
open Go.RowKit

set_option maxHeartbeats 4000000 in
set_option maxRecDepth 100000 in
theorem Hash_calls (s : ByteArray) (hs : s.size ≤ 1000000) (w : World) :
    Calls Tryz.prog 95 #[.string s] w fun e w' => (∃ x : Int, e = .returned (.int .u64 x)) ∧ w' = w := by
  go_enter Tryz.func95, Tryz.ntmps95
  go_wp2_with fail
  go_loopw [3, 7] (fun s3 s7 wr => ∃ (i : Nat) (x : Int), s7 = .int .i64 i ∧ s3 = .int .u64 x ∧ i ≤ s.size ∧ Asd (wr = w)) (fun _ s7 _ => s.size - (intOf s7).toNat)
  case atStart => exact ⟨0, _, rfl, rfl, Nat.zero_le _, ⟨rfl⟩⟩
  case round =>
    obtain ⟨i, x, rfl, rfl, hi, HW⟩ := hrel
    have hw := HW.out
    subst hw
    clear HW
    by_cases hlt : i < s.size
    · go_wp2_with fail
      go_roundw
      case measure => simp [intOf]; omega
      case rel => exact ⟨i + 1, _, by go_num, rfl, by omega, by first | exact ⟨rfl⟩ | exact ⟨trivial⟩⟩
    · obtain rfl : i = s.size := by omega
      go_wp2_with fail
      go_ret
      first | exact ⟨⟨_, rfl⟩, rfl⟩ | trivial
end Go.Proofs.YtallnibjmffahaaGreatDoor

set_option linter.unusedVariables false
set_option linter.unusedSimpArgs false
namespace Go.Proofs.YtallnibjmffahaaGreatDoor
open Go.RowKit

/-- A slice of ints of one element: the one. -/
structure One (base : Nat) (w : World) (A : Option Addr) (c : Nat) : Prop where
  rd : Rd base 3 w 1 A 1 c [.int .i64 1]
theorem One.at_ {base : Nat} {w : World} {A : Option Addr} {c : Nat} (h : One base w A c) : ∃ b off, A = some ⟨b, off, none⟩ ∧ b < w.heap.size ∧ w.cell? ⟨b, off, none⟩ = some (.int .i64 1) := by
  obtain ⟨b, off, e, hb, hc⟩ := h.rd.at_ (by omega)
  exact ⟨b, off, e, hb.lt, hc 0 _ rfl⟩
theorem One.below {base : Nat} {w w' : World} {A : Option Addr} {c : Nat} (h : One base w A c) (hb : Below w.heap.size w w') : One base w' A c := ⟨h.rd.below hb⟩
set_option maxHeartbeats 4000000 in
set_option maxRecDepth 100000 in
theorem Min_calls {base : Nat} {w : World} {A : Option Addr} {c : Nat} (h : One base w A c) :
    Calls Tryz.prog 63 #[.slice A 1 c] w fun e w' => e = .returned (.int .i64 1) ∧ w' = w := by
  obtain ⟨b, off, rfl, hb, hc⟩ := h.at_
  clear h
  go_enter Tryz.func63, Tryz.ntmps63
  go_wp2_with fail
  go_loopw [3, 4] (fun s3 s4 wr => s3 = .int .i64 1 ∧ s4 = .int .i64 1 ∧ Asd (wr = w)) (fun _ _ _ => 0)
  case atStart => exact ⟨rfl, rfl, ⟨rfl⟩⟩
  case round =>
    obtain ⟨rfl, rfl, HW⟩ := hrel
    have hw := HW.out
    subst hw
    clear HW
    go_wp2_with fail
    go_ret
    all_goals first | exact ⟨rfl, rfl⟩ | trivial
set_option maxHeartbeats 4000000 in
set_option maxRecDepth 100000 in
theorem Max_calls {base : Nat} {w : World} {A : Option Addr} {c : Nat} (h : One base w A c) :
    Calls Tryz.prog 64 #[.slice A 1 c] w fun e w' => e = .returned (.int .i64 1) ∧ w' = w := by
  obtain ⟨b, off, rfl, hb, hc⟩ := h.at_
  clear h
  go_enter Tryz.func64, Tryz.ntmps64
  go_wp2_with fail
  go_loopw [3, 4] (fun s3 s4 wr => s3 = .int .i64 1 ∧ s4 = .int .i64 1 ∧ Asd (wr = w)) (fun _ _ _ => 0)
  case atStart => exact ⟨rfl, rfl, ⟨rfl⟩⟩
  case round =>
    obtain ⟨rfl, rfl, HW⟩ := hrel
    have hw := HW.out
    subst hw
    clear HW
    go_wp2_with fail
    go_ret
    all_goals first | exact ⟨rfl, rfl⟩ | trivial
set_option maxHeartbeats 4000000 in
set_option maxRecDepth 100000 in
theorem RingCheck_calls {base : Nat} {w : World} {A : Option Addr} {c : Nat} (h : One base w A c) :
    Calls Tryz.prog 39 #[.slice A 1 c] w fun e w' => e = .returned (.int .i64 0) ∧ w' = w := by
  have h1 := Asd.mk (Min_calls h)
  have h2 := Asd.mk (Max_calls h)
  clear h
  go_enter Tryz.func39, Tryz.ntmps39
  go_wp2_with fail
  refine h1.out.mono ?_
  rintro e w' ⟨rfl, hw⟩
  subst hw
  go_wp2_with fail
  refine h2.out.mono ?_
  rintro e w'' ⟨rfl, hw⟩
  subst hw
  go_wp2_with fail
  refine h2.out.mono ?_
  rintro e w''' ⟨rfl, hw⟩
  subst hw
  go_wp2_with fail
  go_ret
  all_goals first | exact ⟨rfl, rfl⟩ | trivial
end Go.Proofs.YtallnibjmffahaaGreatDoor

set_option linter.unusedVariables false
set_option linter.unusedSimpArgs false
namespace Go.Proofs.YtallnibjmffahaaGreatDoor
open Go.RowKit

set_option maxHeartbeats 4000000 in
set_option maxRecDepth 100000 in
theorem small0 (w : World) : Calls Tryz.prog 114 #[.int .i64 0] w fun e w' => (∃ s : ByteArray, e = .returned (.string s) ∧ s.size ≤ 1) ∧ w' = w := by
  go_enter Tryz.func114, Tryz.ntmps114
  go_wp2_with fail
  go_ret
  all_goals first | exact ⟨⟨_, rfl, by decide⟩, rfl⟩ | exact ⟨_, rfl, by decide⟩ | trivial
set_option maxHeartbeats 4000000 in
set_option maxRecDepth 100000 in
theorem FormatInt0 (w : World) : Calls Tryz.prog 110 #[.int .i64 0, .int .i64 10] w fun e w' => (∃ s : ByteArray, e = .returned (.string s) ∧ s.size ≤ 1) ∧ w' = w := by
  go_enter Tryz.func110, Tryz.ntmps110
  go_wp2_with fail
  refine (small0 _).mono ?_
  rintro e w' ⟨⟨s, rfl, hs⟩, hw⟩
  subst hw
  go_wp2_with fail
  go_ret
  all_goals first | exact ⟨⟨_, rfl, hs⟩, rfl⟩ | exact ⟨_, rfl, hs⟩ | trivial
set_option maxHeartbeats 4000000 in
set_option maxRecDepth 100000 in
theorem IItoa0 (w : World) : Calls Tryz.prog 104 #[.int .i64 0] w fun e w' => (∃ s : ByteArray, e = .returned (.string s) ∧ s.size ≤ 1) ∧ w' = w := by
  go_enter Tryz.func104, Tryz.ntmps104
  go_wp2_with fail
  refine (FormatInt0 _).mono ?_
  rintro e w' ⟨⟨s, rfl, hs⟩, hw⟩
  subst hw
  go_wp2_with fail
  go_ret
  all_goals first | exact ⟨⟨_, rfl, hs⟩, rfl⟩ | exact ⟨_, rfl, hs⟩ | trivial
set_option maxHeartbeats 4000000 in
set_option maxRecDepth 100000 in
theorem Itoa0 (w : World) : Calls Tryz.prog 96 #[.int .i64 0] w fun e w' => (∃ s : ByteArray, e = .returned (.string s) ∧ s.size ≤ 1) ∧ w' = w := by
  go_enter Tryz.func96, Tryz.ntmps96
  go_wp2_with fail
  refine (IItoa0 _).mono ?_
  rintro e w' ⟨⟨s, rfl, hs⟩, hw⟩
  subst hw
  go_wp2_with fail
  go_ret
  all_goals first | exact ⟨⟨_, rfl, hs⟩, rfl⟩ | exact ⟨_, rfl, hs⟩ | trivial
set_option maxHeartbeats 4000000 in
set_option maxRecDepth 100000 in
theorem isNaN_u (a : Int) (w : World) : Calls Tryz.prog 108 #[.int .u64 a] w fun e w' => e = .returned (.bool false) ∧ w' = w := by
  go_enter Tryz.func108, Tryz.ntmps108
  go_wp2_with fail
  go_ret
  all_goals first | exact ⟨by simp, rfl⟩ | trivial
set_option maxHeartbeats 4000000 in
set_option maxRecDepth 100000 in
theorem cmpU (a b : Int) (w : World) : Calls Tryz.prog 101 #[.int .u64 a, .int .u64 b] w fun e w' => (∃ x : Int, e = .returned (.int .i64 x) ∧ -1 ≤ x ∧ x ≤ 1) ∧ w' = w := by
  go_enter Tryz.func101, Tryz.ntmps101
  go_wp2_with fail
  refine (isNaN_u _ _).mono ?_
  rintro e w' ⟨rfl, hw⟩
  subst hw
  go_wp2_with fail
  refine (isNaN_u _ _).mono ?_
  rintro e w'' ⟨rfl, hw⟩
  subst hw
  by_cases h1 : a < b
  · go_wp2_with fail
    go_ret
    all_goals first | exact ⟨⟨_, rfl, by omega, by omega⟩, rfl⟩ | exact ⟨_, rfl, by omega, by omega⟩ | trivial
  · by_cases h2 : b < a
    · go_wp2_with fail
      go_ret
      all_goals first | exact ⟨⟨_, rfl, by omega, by omega⟩, rfl⟩ | exact ⟨_, rfl, by omega, by omega⟩ | trivial
    · go_wp2_with fail
      go_ret
      all_goals first | exact ⟨⟨_, rfl, by omega, by omega⟩, rfl⟩ | exact ⟨_, rfl, by omega, by omega⟩ | trivial
set_option maxHeartbeats 4000000 in
set_option maxRecDepth 100000 in
theorem ofcmp (a c i b : Int) (w : World) : Calls Tryz.prog 100 #[.agg #[.int .u64 a, .int .i64 c, .int .i64 i], .int .u64 b] w fun e w' => (∃ x : Int, e = .returned (.int .i64 x) ∧ -1 ≤ x ∧ x ≤ 1) ∧ Below w.heap.size w w' := by
  have hal := Asd.mk ((Below.refl w.heap.size w).alloc (Nat.le_refl _) (.cells #[.int .u64 a, .int .i64 c, .int .i64 i] 179))
  go_enter Tryz.func100, Tryz.ntmps100
  go_wp2_with fail
  refine (cmpU _ _ _).mono ?_
  rintro e w' ⟨⟨x, rfl, h0, h1⟩, hw⟩
  subst hw
  go_wp2_with fail
  go_ret
  all_goals first | exact ⟨⟨_, rfl, h0, h1⟩, hal.out⟩ | exact hal.out | exact ⟨_, rfl, h0, h1⟩ | trivial
end Go.Proofs.YtallnibjmffahaaGreatDoor

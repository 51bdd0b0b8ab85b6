/- op.EncodeReply: a reply as bytes. -/
import Derived.Test.YtallnibjmffahaaGreatDoorJ18
set_option linter.unusedVariables false
set_option linter.unusedSimpArgs false
namespace Go.Proofs.YtallnibjmffahaaGreatDoor
open Go.RowKit

def resF (r : ResS) : List FieldR := [intF r.code, intF r.stamp, txtF r.val, intF 0]
def repF (cl sq at_ code : Int) (rs : List ResS) : List FieldR := [intF cl, intF sq, intF at_, intF code, intF rs.length] ++ rs.flatMap resF
/-- What EncodeReply answers. -/
def rencP (cl sq at_ code : Int) (rs : List ResS) : ByteArray × Int := if replyOk cl sq at_ code rs then encP (repF cl sq at_ code rs) else (⟨#[]⟩, 80)
theorem resOk_parts {r : ResS} (h : resOk r = true) : (0 ≤ r.code ∧ r.code ≤ 300) ∧ (0 ≤ r.stamp ∧ r.stamp ≤ 1099511627776) ∧ r.val.size ≤ 8192 := by
  unfold resOk numOk at h
  simp only [Bool.and_eq_true, decide_eq_true_eq] at h
  omega
theorem good_res {r : ResS} (h : resOk r = true) : ∀ f ∈ resF r, goodF f := by
  obtain ⟨h1, h2, h3⟩ := resOk_parts h
  intro f hf
  simp only [resF, List.mem_cons, List.not_mem_nil, or_false] at hf
  rcases hf with rfl | rfl | rfl | rfl
  · exact good_int (by omega) (by omega)
  · exact good_int (by omega) (by omega)
  · exact good_txt (by omega)
  · exact good_int (by omega) (by omega)
theorem replyOk_parts {cl sq at_ code : Int} {rs : List ResS} (h : replyOk cl sq at_ code rs = true) : (0 ≤ cl ∧ cl ≤ 1000) ∧ (1 ≤ sq ∧ sq ≤ 1048576) ∧ (0 ≤ at_ ∧ at_ ≤ 32) ∧ (0 ≤ code ∧ code ≤ 300) ∧ rs.length ≤ 32 ∧ ∀ r ∈ rs, resOk r = true := by
  unfold replyOk at h
  split at h
  · rename_i h0
    simp only [Bool.and_eq_true, decide_eq_true_eq] at h
    have : rs = [] := List.eq_nil_of_length_eq_zero h0
    subst this
    exact ⟨h.1.1, h.1.2, h.2.1, ⟨by omega, h.2.2.2⟩, by simp, fun r hr => by cases hr⟩
  · simp only [Bool.and_eq_true, decide_eq_true_eq, Bool.not_eq_true', List.any_eq_false] at h
    obtain ⟨⟨h1, h2⟩, ⟨h3, h4, h5⟩, h6⟩ := h
    refine ⟨h1, h2, by omega, by omega, h3, fun r hr => ?_⟩
    have := h6 r hr
    simpa using this
theorem good_rep {cl sq at_ code : Int} {rs : List ResS} (h : replyOk cl sq at_ code rs = true) : ∀ f ∈ repF cl sq at_ code rs, goodF f := by
  obtain ⟨h1, h2, h3, h4, h5, h6⟩ := replyOk_parts h
  intro f hf
  unfold repF at hf
  rcases List.mem_append.1 hf with hf | hf
  · simp only [List.mem_cons, List.not_mem_nil, or_false] at hf
    rcases hf with rfl | rfl | rfl | rfl | rfl
    · exact good_int (by omega) (by omega)
    · exact good_int (by omega) (by omega)
    · exact good_int (by omega) (by omega)
    · exact good_int (by omega) (by omega)
    · exact good_int (by omega) (by omega)
  · obtain ⟨x, hx, hf⟩ := List.mem_flatMap.1 hf
    exact good_res (h6 x hx) f hf
theorem resF_len (rs : List ResS) : (rs.flatMap resF).length = rs.length * 4 := by
  induction rs with
  | nil => rfl
  | cons x l ih => rw [List.flatMap_cons, List.length_append, ih, List.length_cons]; simp [resF]; omega
def hdF (cl sq at_ code : Int) (n : Nat) : List FieldR := [intF cl, intF sq, intF at_, intF code, intF n]
theorem repF_take {cl sq at_ code : Int} {qs : List ResW} {k : Nat} (hk : k < qs.length) : hdF cl sq at_ code qs.length ++ ((qs.take (k + 1)).map ResW.r).flatMap resF = (hdF cl sq at_ code qs.length ++ ((qs.take k).map ResW.r).flatMap resF) ++ resF qs[k].r := by
  rw [List.take_succ_eq_append_getElem hk, List.map_append, List.flatMap_append]
  simp

set_option maxHeartbeats 8000000 in
set_option maxRecDepth 100000 in
theorem EncodeReply_calls {base : Nat} {w : World} (cl sq at_ code : Int) {A : Option Addr} {n c : Nat} {qs : List ResW} (hq : Rd base 81 w 4 A n c (rwCells qs)) (hbig : n ≤ 1000000) (hbs : base ≤ w.heap.size) :
    Calls Tryz.prog 36 #[.agg #[.int .i64 cl, .int .i64 sq, .slice A n c, .int .i64 at_, .int .i64 code]] w fun e w' => e = .returned (.tuple #[.string (rencP cl sq at_ code (qs.map ResW.r)).1, .int .i64 (rencP cl sq at_ code (qs.map ResW.r)).2]) ∧ Below w.heap.size w w' := by
  have hn := hq.count (enc := ResW.enc) (fun _ => rfl) (by omega)
  have hal : Below w.heap.size w (w.alloc (.cells #[.int .i64 cl, .int .i64 sq, .slice A n c, .int .i64 at_, .int .i64 code] 51)) := (Below.refl _ _).alloc (Nat.le_refl _) _
  have CK := Asd.mk (reply_calls cl sq at_ code (hq.below hal) hbig)
  have R := Asd.mk (fun W (h : Below w.heap.size w W) => hq.below h)
  have N := Asd.mk hn
  have B1 := Asd.mk hal
  have H1 := Asd.mk (heap_alloc_new w (.cells #[.int .i64 cl, .int .i64 sq, .slice A n c, .int .i64 at_, .int .i64 code] 51))
  clear hq hn hal
  cases hr : replyOk cl sq at_ code (qs.map ResW.r) with
  | false =>
    have EP : Asd (rencP cl sq at_ code (qs.map ResW.r) = (⟨#[]⟩, 80)) := ⟨by unfold rencP; rw [hr]; rfl⟩
    rw [hr] at CK
    clear hr
    go_enter Tryz.func36, Tryz.ntmps36
    go_upto_region 1 with fail
    generalize w.alloc (.cells #[.int .i64 cl, .int .i64 sq, .slice A n c, .int .i64 at_, .int .i64 code] 51) = w1 at CK B1 H1 ⊢
    have y0 := (cell_of_row w1 w.heap.size 0 _ _ _ H1.out).trans rfl
    have y1 := (cell_of_row w1 w.heap.size 1 _ _ _ H1.out).trans rfl
    have y2 := (cell_of_row w1 w.heap.size 2 _ _ _ H1.out).trans rfl
    have y3 := (cell_of_row w1 w.heap.size 3 _ _ _ H1.out).trans rfl
    have y4 := (cell_of_row w1 w.heap.size 4 _ _ _ H1.out).trans rfl
    go_wp2_with fail
    refine CK.out.mono ?_
    rintro e w2 ⟨rfl, hb2⟩
    have B2 := Asd.mk (B1.out.trans (hb2.mono B1.out.size))
    clear hb2
    go_wp2_with fail
    go_ret2
    exact ⟨by rw [EP.out]; rfl, B2.out⟩
  | true =>
    have EP : Asd (rencP cl sq at_ code (qs.map ResW.r) = encP (repF cl sq at_ code (qs.map ResW.r))) := ⟨by unfold rencP; rw [hr]; rfl⟩
    have GR := Asd.mk (good_rep hr)
    have h32 := (replyOk_parts hr).2.2.2.2.1
    rw [List.length_map, N.out] at h32
    rw [hr] at CK
    clear hr
    go_enter Tryz.func36, Tryz.ntmps36
    go_upto_region 1 with fail
    generalize w.alloc (.cells #[.int .i64 cl, .int .i64 sq, .slice A n c, .int .i64 at_, .int .i64 code] 51) = w1 at CK B1 H1 ⊢
    have y0 := (cell_of_row w1 w.heap.size 0 _ _ _ H1.out).trans rfl
    have y1 := (cell_of_row w1 w.heap.size 1 _ _ _ H1.out).trans rfl
    have y2 := (cell_of_row w1 w.heap.size 2 _ _ _ H1.out).trans rfl
    have y3 := (cell_of_row w1 w.heap.size 3 _ _ _ H1.out).trans rfl
    have y4 := (cell_of_row w1 w.heap.size 4 _ _ _ H1.out).trans rfl
    go_wp2_with fail
    refine CK.out.mono ?_
    rintro e w2 ⟨rfl, hb2⟩
    have B2 := Asd.mk (B1.out.trans (hb2.mono B1.out.size))
    have H2 := Asd.mk ((hb2.block _ (Array.getElem?_eq_some_iff.1 H1.out).1).trans H1.out)
    clear hb2 y0 y1 y2 y3 y4 CK H1
    go_upto_region 4 with fail
    have hz2 : w.heap.size ≤ w2.heap.size := B2.out.size
    have W3 := Asd.mk (Wr.fresh w.heap.size w2 hz2)
    have B3 := Asd.mk (B2.out.alloc hz2 (.cells #[.slice none 0 0] 118))
    have H3 := Asd.mk (((Below.refl w2.heap.size w2).alloc (Nat.le_refl _) (.cells #[.slice none 0 0] 118)).block _ (Array.getElem?_eq_some_iff.1 H2.out).1 |>.trans H2.out)
    have hz3 : w.heap.size ≤ (w2.alloc (.cells #[.slice none 0 0] 118)).heap.size := B3.out.size
    obtain ⟨g, hg⟩ : ∃ g, g = w2.heap.size := ⟨_, rfl⟩
    rw [← hg] at W3 ⊢
    generalize w2.alloc (.cells #[.slice none 0 0] 118) = w3 at W3 B3 H3 hz3 ⊢
    clear hg H2 B2 hz2 B1
    have y0 := (cell_of_row w3 w.heap.size 0 _ _ _ H3.out).trans rfl
    have y1 := (cell_of_row w3 w.heap.size 1 _ _ _ H3.out).trans rfl
    have y2 := (cell_of_row w3 w.heap.size 2 _ _ _ H3.out).trans rfl
    have y3 := (cell_of_row w3 w.heap.size 3 _ _ _ H3.out).trans rfl
    have y4 := (cell_of_row w3 w.heap.size 4 _ _ _ H3.out).trans rfl
    have NC := Asd.mk (num_new W3.out (by simp) hz3 [cl, sq, at_, code, (n : Int)] (by simp))
    go_wp2_with fail
    refine NC.out.mono ?_
    rintro e w4 ⟨rfl, hw4, hk4⟩
    have W4 : Asd (Wr w.heap.size w4 g (hdF cl sq at_ code qs.length ++ ((qs.take 0).map ResW.r).flatMap resF)) := ⟨by rw [N.out]; simpa [hdF] using hw4⟩
    have K4 : Asd (Kq wrS w.heap.size w3 w4) := ⟨hk4⟩
    clear hw4 hk4 NC W3 y0 y1 y2 y3 y4
    have H4 := Asd.mk (K4.out.blk H3.out rfl)
    have y2 := (cell_of_row w4 w.heap.size 2 _ _ _ H4.out).trans rfl
    go_wp2_with fail
    go_loopw [33] (fun s33 wr => ∃ q : Nat, s33 = .int .i64 q ∧ q ≤ n ∧ Asd (Wr w.heap.size wr g (hdF cl sq at_ code qs.length ++ ((qs.take q).map ResW.r).flatMap resF)) ∧ Asd (Kq wrS w.heap.size w3 wr)) (fun s33 _ => n - (intOf s33).toNat)
    case atStart => exact ⟨0, rfl, Nat.zero_le _, W4, K4⟩
    case round =>
      obtain ⟨q, rfl, hq, WW, KW⟩ := hrel
      clear W4 K4 H4 y2
      have hzr : w.heap.size ≤ wr.heap.size := Nat.le_trans hz3 KW.out.size
      by_cases hlt : q < n
      · obtain ⟨b, off, rfl, hbl, hil, hcs⟩ := (R.out wr (B3.out.trans KW.out.below)).at_enc (enc := ResW.enc) (fun _ => rfl) (by omega) hlt
        have hcap : q < c := Nat.lt_of_lt_of_le hlt (R.out wr (B3.out.trans KW.out.below)).cap
        have TK := Asd.mk (repF_take (cl := cl) (sq := sq) (at_ := at_) (code := code) hil)
        have hll : Asd ((hdF cl sq at_ code qs.length ++ ((qs.take q).map ResW.r).flatMap resF : List FieldR).length ≤ 1000) := ⟨by
          rw [List.length_append, resF_len, List.length_map, List.length_take]
          simp only [hdF, List.length_cons, List.length_nil]
          omega⟩
        generalize qs[q] = x at hcs TK
        obtain ⟨⟨xc, xs, xv⟩, XA, Xc⟩ := x
        have c0 := hcs 0 _ rfl
        have c1 := hcs 1 _ rfl
        have c2 := hcs 2 _ rfl
        have c3 := hcs 3 _ rfl
        rw [Nat.add_zero] at c0
        clear hcs
        have W0 := Asd.mk (WW.out.alloc (.cells #[.int .i64 xc, .int .i64 xs, .string xv, .slice XA 0 Xc] 81))
        have K0 := Asd.mk (KW.out.alloc hzr (.cells #[.int .i64 xc, .int .i64 xs, .string xv, .slice XA 0 Xc] 81))
        have X0 := Asd.mk (heap_alloc_new wr (.cells #[.int .i64 xc, .int .i64 xs, .string xv, .slice XA 0 Xc] 81))
        go_upto_region 8 with fail
        have hz5 : w.heap.size ≤ (wr.alloc (.cells #[.int .i64 xc, .int .i64 xs, .string xv, .slice XA 0 Xc] 81)).heap.size := by simp; omega
        obtain ⟨xb, hxb⟩ : ∃ xb, xb = wr.heap.size := ⟨_, rfl⟩
        rw [← hxb] at X0 ⊢
        generalize wr.alloc (.cells #[.int .i64 xc, .int .i64 xs, .string xv, .slice XA 0 Xc] 81) = w5 at W0 K0 X0 hz5 ⊢
        clear hxb c0 c1 c2 c3 WW KW hzr hbl
        have x0 := (cell_of_row w5 xb 0 _ _ _ X0.out).trans rfl
        have x1 := (cell_of_row w5 xb 1 _ _ _ X0.out).trans rfl
        have NC := Asd.mk (num_new W0.out (by have := hll.out; omega) hz5 [xc, xs] (by simp))
        go_wp2_with fail
        refine NC.out.mono ?_
        rintro e w6 ⟨rfl, hw6, hk6⟩
        have W6 := Asd.mk hw6
        have K6 := Asd.mk (K0.out.trans hk6)
        have X6 := Asd.mk (hk6.blk X0.out rfl)
        have hz6 : w.heap.size ≤ w6.heap.size := Nat.le_trans hz5 hk6.size
        clear hw6 hk6 x0 x1 NC W0 K0 X0 hz5
        have x2 := (cell_of_row w6 xb 2 _ _ _ X6.out).trans rfl
        have NC := Asd.mk (text_new W6.out (by have := hll.out; simp only [List.length_append, List.length_map, List.length_cons, List.length_nil] at this ⊢; omega) hz6 [xv] (by simp))
        go_wp2_with fail
        refine NC.out.mono ?_
        rintro e w7 ⟨rfl, hw7, hk7⟩
        have W7 := Asd.mk hw7
        have K7 := Asd.mk (K6.out.trans hk7)
        have X7 := Asd.mk (hk7.blk X6.out rfl)
        have hz7 : w.heap.size ≤ w7.heap.size := Nat.le_trans hz6 hk7.size
        clear hw7 hk7 x2 NC W6 K6 X6 hz6
        have x3 := (cell_of_row w7 xb 3 _ _ _ X7.out).trans rfl
        have NC := Asd.mk (num_new W7.out (by have := hll.out; simp only [List.length_append, List.length_map, List.length_cons, List.length_nil] at this ⊢; omega) hz7 [0] (by simp))
        go_wp2_with fail
        refine NC.out.mono ?_
        rintro e w8 ⟨rfl, hw8, hk8⟩
        have W8 : Asd (Wr w.heap.size w8 g (hdF cl sq at_ code qs.length ++ ((qs.take (q + 1)).map ResW.r).flatMap resF)) := ⟨by rw [TK.out]; simpa [resF] using hw8⟩
        have K8 := Asd.mk (K7.out.trans hk8)
        have X8 := Asd.mk (hk8.blk X7.out rfl)
        clear hw8 hk8 x3 NC W7 K7 X7 hz7
        have x3 := (cell_of_row w8 xb 3 _ _ _ X8.out).trans rfl
        go_wp2_with fail
        obtain ⟨w9, hw9⟩ : ∃ w9, w9 = w8 := ⟨_, rfl⟩
        go_loopw [58] (fun s58 wq => s58 = .int .i64 0 ∧ Asd (wq = w9)) (fun _ _ => 0)
        case atStart => exact ⟨rfl, ⟨hw9.symm⟩⟩
        case round =>
          obtain ⟨rfl, HQ⟩ := hrel
          have hq9 := HQ.out
          rw [hw9] at hq9
          subst hq9
          clear hw9 HQ
          go_wp2_with fail
          go_roundw
          case measure => simp [intOf]; omega
          case rel => exact ⟨q + 1, by go_num, by omega, W8, K8⟩
      · obtain rfl : q = n := by omega
        have ha : qs.take q = qs := List.take_of_length_le (by rw [N.out]; omega)
        rw [ha] at WW
        obtain ⟨A', n', c', hA, hA2⟩ := WW.out.rd
        have g0 := (cell_of_row wr g 0 _ _ _ hA).trans rfl
        have gl : g < wr.heap.size := (Array.getElem?_eq_some_iff.1 hA).1
        have EQ : hdF cl sq at_ code qs.length ++ (qs.map ResW.r).flatMap resF = repF cl sq at_ code (qs.map ResW.r) := by
          unfold hdF repF
          rw [List.length_map]
        rw [EQ] at hA2
        have EC := Asd.mk (Encode_calls hA2 (fun f hf => (GR.out f hf).1) hzr)
        have BW := Asd.mk (B3.out.trans KW.out.below)
        clear ha hA hA2 EQ
        go_wp2_with fail
        refine EC.out.mono ?_
        rintro e w5 ⟨rfl, hb5⟩
        have B5 := Asd.mk (BW.out.trans (hb5.mono hzr))
        clear hb5
        go_wp2_with fail
        go_ret2
        exact ⟨by rw [EP.out]; rfl, B5.out⟩
end Go.Proofs.YtallnibjmffahaaGreatDoor

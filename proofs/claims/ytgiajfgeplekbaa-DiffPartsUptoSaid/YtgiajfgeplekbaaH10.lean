/- diff.Digests. -/
import Derived.Test.YtgiajfgeplekbaaH4
import Derived.Test.YtgiajfgeplekbaaH9
import Derived.Test.YtgiajfgeplekbaaDu
set_option linter.unusedVariables false
set_option linter.unusedSimpArgs false
namespace Go.Proofs.Ytgiajfgeplekbaa
open Go.RowKit

def digsP (l : List Rw) (ps : List SpanR) : List Int := ps.map fun s => digP (withinP l s)
theorem digsP_snoc (l : List Rw) (ps : List SpanR) (s : SpanR) : digsP l (ps ++ [s]) = digsP l ps ++ [digP (withinP l s)] := by simp [digsP]
def digsR (l : List Rw) (ps : List SpanR) : List Int := if wrongP l = 0 then digsP l ps else []
def DigsPost (w : World) (l : List Rw) (ps : List SpanR) (e : Ending) (w' : World) : Prop :=
  ∃ (A : Option Addr) (n c : Nat), e = .returned (.tuple #[.slice A n c, .int .i64 (wrongP l)]) ∧ Below w.heap.size w w' ∧ w'.ownsRow w.heap.size 49 1 (.slice A n c) n ((digsR l ps).flatMap uEnc)
theorem ok_sizes {l : List Rw} (h : wrongP l = 0) : ∀ r ∈ l, r.key.size ≤ 9223372036854775807 ∧ r.val.size ≤ 9223372036854775807 := by
  intro r hr
  have h1 := (wrongP_zero.1 h).1 r hr
  unfold rowOk at h1
  simp only [Bool.and_eq_true, decide_eq_true_eq] at h1
  omega
theorem filter_not_not (l : List Rw) (s : SpanR) : (l.filter fun r => !(!hasP r.key s)) = withinP l s := by
  unfold withinP
  congr 1
  funext r
  exact Bool.not_not _

set_option maxHeartbeats 8000000 in
set_option maxRecDepth 100000 in
theorem Digests_calls {base : Nat} {w : World} {A P : Option Addr} {n c m d : Nat} {l : List Rw} {ps : List SpanR} (hr : Rd base 29 w 3 A n c (rowCells l)) (hp : Rd base 39 w 2 P m d (sCells ps)) (hn : n ≤ 100000) (hm : m ≤ 100000) (hbs : base ≤ w.heap.size) :
    Calls Try.prog 21 #[.slice A n c, .slice P m d] w (DigsPost w l ps) := by
  have hcn := hr.count (enc := Rw.enc) (fun _ => rfl) (by omega)
  have hcm := hp.count (enc := SpanR.enc) (fun _ => rfl) (by omega)
  have N := Asd.mk hcn
  have M := Asd.mk hcm
  have hal : Below w.heap.size w (w.alloc (.cells #[.slice P m d] 33)) := (Below.refl _ _).alloc (Nat.le_refl _) _
  have R := Asd.mk (hr.below hal)
  have RP := Asd.mk (hp.below hal)
  have B0 := Asd.mk hal
  have PB : Asd ((w.alloc (.cells #[.slice P m d] 33)).cell? ⟨w.heap.size, 0, none⟩ = some (.slice P m d)) := ⟨(cell_of_row _ _ 0 _ _ _ (heap_alloc_new w _)).trans rfl⟩
  have PL : Asd (w.heap.size < (w.alloc (.cells #[.slice P m d] 33)).heap.size) := ⟨by simp⟩
  have BS : Asd (base ≤ w.heap.size) := ⟨hbs⟩
  clear hr hp hcn hcm hal hbs
  go_enter Try.func21, Try.ntmps21
  go_wp2_with fail
  generalize (w.alloc (.cells #[.slice P m d] 33)) = w0 at *
  refine (wrong_calls R.out (by omega) (Nat.le_trans BS.out B0.out.size)).mono ?_
  rintro e w1 ⟨rfl, hb1⟩
  have B1 := Asd.mk hb1
  clear hb1
  by_cases he : wrongP l = 0
  · have HE := Asd.mk he
    have SZ := Asd.mk (ok_sizes he)
    rw [he]
    clear he
    have p1 : w1.cell? ⟨w.heap.size, 0, none⟩ = some (.slice P m d) := ((bcell B1.out).1 _ 0 PL.out).trans PB.out
    go_wp2_with fail
    clear p1
    go_loopw [7, 17] (fun s7 s17 wr => ∃ (k co : Nat) (Ao : Option Addr), s7 = .slice Ao k co ∧ s17 = .int .i64 k ∧ k ≤ m ∧ Asd (Below w0.heap.size w0 wr) ∧ Asd (wr.ownsRow w0.heap.size 49 1 (.slice Ao k co) k ((digsP l (ps.take k)).flatMap uEnc))) (fun _ s17 _ => m - (intOf s17).toNat)
    case atStart => exact ⟨0, 0, none, rfl, rfl, by omega, B1, ⟨World.ownsRow_nil _ _ _ _⟩⟩
    case round =>
      obtain ⟨k, co, Ao, rfl, rfl, hk, BW, OW⟩ := hrel
      by_cases hlt : k < m
      · have hil : k < ps.length := by have := M.out; omega
        have hal : Below wr.heap.size wr (wr.alloc (.cells #[.int .i64 k] 3)) := (Below.refl _ _).alloc (Nat.le_refl _) _
        have B2 := Asd.mk (BW.out.trans (hal.mono BW.out.size))
        have O2 := Asd.mk (OW.out.alloc (.cells #[.int .i64 k] 3))
        have IB : Asd ((wr.alloc (.cells #[.int .i64 k] 3)).cell? ⟨wr.heap.size, 0, none⟩ = some (.int .i64 k)) := ⟨(cell_of_row _ _ 0 _ _ _ (heap_alloc_new wr _)).trans rfl⟩
        have IL : Asd (wr.heap.size < (wr.alloc (.cells #[.int .i64 k] 3)).heap.size) := ⟨by simp⟩
        clear hal OW BW
        go_wp2_with fail
        generalize (wr.alloc (.cells #[.int .i64 k] 3)) = w2 at *
        generalize wr.heap.size = ib at *
        refine (Clone_row w2 A n c (rowCells l) (R.out.below B2.out) (row_one _) (by omega)).mono ?_
        rintro e w3 ⟨A3, c3, rfl, _, O3', hb3⟩
        have B3 := Asd.mk hb3
        have O3 := Asd.mk O3'
        clear hb3 O3'
        have CL : Asd (∀ (W : World), Below w2.heap.size w3 W → ∀ (x : Rw), x ∈ l → Calls Try.prog 42 (#[.agg x.enc.toArray] ++ #[.pointer (some ⟨w.heap.size, 0, none⟩), .pointer (some ⟨ib, 0, none⟩)]) W fun e w' => e = .returned (.bool (!hasP x.key ps[k])) ∧ Below W.heap.size W w') := ⟨fun W hW x _ => by
          have hB : Below w2.heap.size w2 W := B3.out.trans hW
          have hB0 : Below w0.heap.size w0 W := B2.out.trans (hB.mono B2.out.size)
          have hl0 : w.heap.size < W.heap.size := Nat.lt_of_lt_of_le PL.out hB0.size
          exact out_calls (RP.out.below hB0) hm hlt hil (((bcell hB0).1 _ 0 PL.out).trans PB.out) (((bcell hB).1 _ 0 IL.out).trans IB.out) hl0 (Nat.lt_of_lt_of_le IL.out hB.size) x⟩
        have DL : Asd (Calls Try.prog 40 #[.slice A3 n c3, .func (.func 42) #[] #[.pointer (some ⟨w.heap.size, 0, none⟩), .pointer (some ⟨ib, 0, none⟩)]] w3 (DelPost base w2.heap.size w3 (withinP l ps[k]))) := ⟨by
          have h := DeleteFunc_calls (base := base) (fun x => !hasP x.key ps[k]) 42 #[.pointer (some ⟨w.heap.size, 0, none⟩), .pointer (some ⟨ib, 0, none⟩)] (enters_of Try.func42 (by kernel_rfl) rfl) O3.out B3.out.size (by omega) CL.out
          rwa [filter_not_not] at h⟩
        have hsn : digsP l (ps.take (k + 1)) = digsP l (ps.take k) ++ [digP (withinP l ps[k])] := by
          rw [List.take_succ_eq_append_getElem hil, digsP_snoc]
        have SN := Asd.mk hsn
        have SW : Asd (∀ r ∈ withinP l ps[k], r.key.size ≤ 9223372036854775807 ∧ r.val.size ≤ 9223372036854775807) := ⟨fun r hr => SZ.out r (List.mem_filter.1 hr).1⟩
        have LW : Asd ((withinP l ps[k]).length ≤ n) := ⟨by rw [← N.out]; exact List.length_filter_le _ _⟩
        generalize ps[k] = s at *
        clear CL hsn
        go_wp2_with fail
        refine DL.out.mono ?_
        rintro e w4 ⟨A4, n4, c4, rfl, hb4, hr4⟩
        have B4 := Asd.mk (B3.out.trans hb4)
        have R4 := Asd.mk hr4
        have hn4 : n4 ≤ n := by
          have h1 := hr4.count (enc := Rw.enc) (fun _ => rfl) (by omega)
          have h2 := LW.out
          omega
        clear hb4 hr4 DL B3 O3
        go_wp2_with fail
        refine (Digest_calls R4.out (by omega) SW.out).mono ?_
        rintro e w5 ⟨rfl, hb5⟩
        have hb45 : Below w2.heap.size w2 w5 := B4.out.trans (hb5.mono B4.out.size)
        have B6 := Asd.mk (B2.out.trans (hb45.mono B2.out.size))
        have O6 := Asd.mk (O2.out.kept (gb_below hb45 none) (by cases (Value.slice Ao k co).ownBlock <;> simp))
        clear hb5 hb45 B4 O2 B2
        go_wp2_with (at_builtin; refine wpList_append_mine (base := base) (own := w0.heap.size) (n := k) (m := 1) (v := .slice Ao k co) (xs := (digsP l (ps.take k)).flatMap uEnc) (ys := [digP (withinP l s)].flatMap uEnc) rfl (.tmp 24) (.tmp 27) 41 rfl elt_u64 rfl rfl (O6.out.alloc _) (Rd.new_ rfl rfl) (u64_one _) (by unfold maxLen; omega) (by omega) (Nat.le_trans B6.out.size (by simp)) ?_; intro v8 w8 O8' G8'; obtain ⟨P8, c8, rfl, _⟩ := Rd.of_own (base := base) O8'; have O8 := Asd.mk O8'; have B8 := Asd.mk ((B6.out.alloc B6.out.size (.cells #[.int .u64 (digP (withinP l s))] 49)).grown G8' (Nat.le_trans B6.out.size (by simp)) (fun j hj => (O6.out.lt j hj).1)); clear O8' G8')
        go_roundw
        case measure => simp [intOf]; omega
        case rel =>
          have O9 := O8.out
          rw [show (digsP l (ps.take k)).flatMap uEnc ++ [digP (withinP l s)].flatMap uEnc = (digsP l (ps.take (k + 1))).flatMap uEnc from by rw [SN.out, List.flatMap_append]] at O9
          exact ⟨k + 1, c8, P8, rfl, by go_num, by omega, B8, ⟨O9⟩⟩
      · obtain rfl : k = m := by omega
        go_wp2_with fail
        go_ret2
        refine ⟨Ao, k, co, by rw [HE.out]; rfl, B0.out.trans (BW.out.mono B0.out.size), ?_⟩
        unfold digsR
        rw [if_pos HE.out]
        have h := OW.out
        rw [List.take_of_length_le (by have := M.out; omega)] at h
        exact own_le' h B0.out.size
  · have hne : (wrongP l == 0) = false := by rw [beq_eq_false_iff_ne]; exact he
    have hne2 : (wrongP l != 0) = true := by rw [bne_iff_ne]; exact he
    have RZ : Asd (digsR l ps = []) := ⟨by unfold digsR; rw [if_neg he]⟩
    generalize hz : wrongP l = z at hne hne2 ⊢
    have ZZ := Asd.mk hz
    clear hz he
    go_wp2_with fail
    go_ret2
    refine ⟨none, 0, 0, by rw [ZZ.out]; rfl, B0.out.trans (B1.out.mono B0.out.size), ?_⟩
    rw [RZ.out]
    exact World.ownsRow_nil _ _ _ _
end Go.Proofs.Ytgiajfgeplekbaa

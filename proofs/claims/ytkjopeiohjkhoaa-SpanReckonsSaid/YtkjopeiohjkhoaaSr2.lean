/- The book: spans kept, spoilt; the document's wrong, in. -/
import Derived.Test.YtkjopeiohjkhoaaSr1
import Derived.Test.YtkjopeiohjkhoaaSg
set_option linter.unusedVariables false
set_option linter.unusedSimpArgs false
namespace Go.Proofs.Ytkjopeiohjkhoaa
open Go.RowKit Go.Sort

theorem lent_list {base : Nat} {w : World} {P : Option Addr} {n cp : Nat} {l : List SpanR} (h : Rd base 35 w 2 P (n + 1) cp (sCells (l ++ [markS]))) : l.length = n ∧ Rd base 35 w 2 P n cp (sCells l) := by
  have h1 := h.count (enc := SpanR.enc) (fun _ => rfl) (by omega)
  have hl : l.length = n := by rw [List.length_append] at h1; simp at h1; exact h1
  refine ⟨hl, ?_⟩
  have h2 := h.prefix_ (hi := n) (c' := cp) (by omega) (by have := h.cap; omega) (Nat.le_refl _) h.nil
  have h3 : (sCells (l ++ [markS])).take (n * 2) = sCells l := by
    rw [← sCells_snoc, List.take_append_of_le_length]
    · rw [List.take_of_length_le]
      unfold sCells
      rw [flat_len SpanR.enc 2 (fun _ => rfl), hl]
      exact Nat.le_refl _
    · unfold sCells
      rw [flat_len SpanR.enc 2 (fun _ => rfl), hl]
      exact Nat.le_refl _
  rw [h3] at h2
  exact h2
set_option maxHeartbeats 2000000 in
theorem KeptSpans_calls {base : Nat} {w : World} {P A : Option Addr} {n cp c : Nat} {l : List SpanR} (hx : Rd base 35 w 2 P (n + 1) cp (sCells (l ++ [markS]))) (ha : Rd base 35 w 2 A n c (sCells l)) (hbig : n ≤ 4398046511103) :
    Calls Try.prog 20 #[.slice P n cp, .slice A n c] w fun e w' => e = .returned (.bool true) ∧ ∃ q, w' = w.drewN q := by
  obtain ⟨hl, hp⟩ := lent_list hx
  have hs := SameSpans_calls hp ha (by omega)
  rw [decide_eq_true rfl] at hs
  have HS := Asd.mk hs
  have hcap := hx.cap
  have hcap2 : n ≤ cp := by omega
  obtain ⟨b, off, rfl, hb, hil, hcs⟩ := hx.at_enc (enc := SpanR.enc) (fun _ => rfl) (by omega) (show n < n + 1 by omega)
  have c0 : w.cell? ⟨b, off + n * 2, none⟩ = some (.string ⟨#[109, 97, 114, 107]⟩) := by
    have hg : (l ++ [markS])[n] = markS := by
      rw [List.getElem_append_right (by omega)]
      simp
    exact (hcs 0 _ rfl).trans (by rw [hg]; rfl)
  clear hs hx ha hp hcs
  go_enter Try.func20, Try.ntmps20
  go_wp2_with fail
  refine HS.out.mono ?_
  rintro e w1 ⟨rfl, q, hq⟩
  have Q := Asd.mk hq
  have d0 : w1.cell? ⟨b, off + n * 2, none⟩ = some (.string ⟨#[109, 97, 114, 107]⟩) := by rw [hq]; exact c0
  clear hq
  have hn1 : IntKind.i64.wrap ((n : Int) + 1) = (n : Int) + 1 := IntWalk.i64_in _ (by omega)
  have hn2 : (0 : Int) ≤ (n : Int) + 1 ∧ (n : Int) + 1 ≤ (cp : Int) ∧ ((n : Int) + 1).toNat = n + 1 := by omega
  go_wp2_with fail
  go_ret
  exact ⟨rfl, q, Q.out⟩

theorem put_row {w : World} {g : Nat} {cs : Array Value} {T : TypeId} (h : w.heap[g]? = some (.cells cs T (0, 0))) (j : Nat) (u : Value) : (w.setCell ⟨g, j, none⟩ u).heap[g]? = some (.cells (cs.setIfInBounds j u) T (0, 0)) := by
  simp only [World.setCell, Array.getElem?_modify, h, if_true]
  rfl
set_option maxHeartbeats 2000000 in
theorem SpoilSpans_calls {w : World} {own : Nat} {A : Option Addr} {n c : Nat} {xs : List Value} (hO : w.ownsRow own 35 2 (.slice A n c) n xs) (hbig : c ≤ 9223372036854775807) :
    Calls Try.prog 19 #[.slice A n c] w fun e w' => e = .returned (.tuple #[]) ∧ Below own w w' := by
  rcases hO.2 with ⟨hv, hn0⟩ | ⟨g, cap, cur, hv, hb, hh, h1, h2, h3, h4⟩
  · injection hv with hv1 hv2 hv3
    subst hv1 hv2 hv3
    clear hO
    go_enter Try.func19, Try.ntmps19
    go_wp2_with fail
    go_loopw [2] (fun s2 wr => s2 = .int .i64 0 ∧ Asd (Below own w wr)) (fun _ _ => 0)
    case atStart => exact ⟨rfl, ⟨Below.refl _ _⟩⟩
    case round =>
      obtain ⟨rfl, BW⟩ := hrel
      go_wp2_with fail
      go_end0
      exact ⟨rfl, BW.out⟩
  · injection hv with hv1 hv2 hv3
    subst hv1 hv3
    have CUR : Asd (∃ cs : Array Value, cs.size = c * 2 ∧ w.heap[g]? = some (.cells cs 35 (0, 0))) := ⟨cur, h3, hh⟩
    have OB := Asd.mk hb
    clear hO hh h3 h4 hb
    go_enter Try.func19, Try.ntmps19
    go_wp2_with fail
    go_loopw [2] (fun s2 wr => ∃ i : Nat, s2 = .int .i64 i ∧ i ≤ c ∧ Asd (Below own w wr) ∧ Asd (∃ cs : Array Value, cs.size = c * 2 ∧ wr.heap[g]? = some (.cells cs 35 (0, 0)))) (fun s2 _ => c - (intOf s2).toNat)
    case atStart => exact ⟨0, rfl, Nat.zero_le _, ⟨Below.refl _ _⟩, CUR⟩
    case round =>
      clear CUR
      obtain ⟨i, rfl, hi, BW, CUR⟩ := hrel
      by_cases hlt : i < c
      · obtain ⟨cs, hcs, hh⟩ := CUR.out
        have c0 : wr.cell? ⟨g, i * 2, none⟩ = some cs[i * 2] := (cell_of_row _ _ _ _ _ _ hh).trans (Array.getElem?_eq_getElem (by omega))
        have c1 : wr.cell? ⟨g, i * 2 + 1, none⟩ = some cs[i * 2 + 1] := (cell_of_row _ _ _ _ _ _ hh).trans (Array.getElem?_eq_getElem (by omega))
        have f0 : wr.frozen? ⟨g, i * 2, none⟩ = false := frozen_of_row _ _ _ _ _ hh
        have f1 : wr.frozen? ⟨g, i * 2 + 1, none⟩ = false := frozen_of_row _ _ _ _ _ hh
        generalize cs[i * 2] = v0 at c0
        generalize cs[i * 2 + 1] = v1 at c1
        have HH := Asd.mk hh
        have HC := Asd.mk hcs
        clear hh hcs CUR
        go_wp2_with fail
        go_roundw
        case measure => simp [intOf]; omega
        case rel => exact ⟨i + 1, by go_num, by omega, ⟨(BW.out.setCell (p := ⟨g, i * 2, none⟩) OB.out _).setCell (p := ⟨g, i * 2 + 1, none⟩) OB.out _⟩, ⟨_, by rw [Array.size_setIfInBounds, Array.size_setIfInBounds]; exact HC.out, put_row (put_row HH.out _ _) _ _⟩⟩
      · go_wp2_with fail
        go_end0
        exact ⟨rfl, BW.out⟩

def rfHow (how : Int) : Bool → Bool → Bool := if how = 0 then orB else if how = 1 then andB else notB
theorem RefIn_calls {base : Nat} {w : World} {A B : Option Addr} {n c m d : Nat} {a b : List SpanR} (ha : Rd base 35 w 2 A n c (sCells a)) (hb : Rd base 35 w 2 B m d (sCells b)) (hn : n ≤ 4398046511104) (hm : m ≤ 4398046511104) (key : ByteArray) (how : Int) (hh : how = 0 ∨ how = 1 ∨ how = 2) :
    Calls Try.prog 41 #[.slice A n c, .slice B m d, .string key, .int .i64 how] w fun e w' => e = .returned (.bool (rfHow how (inL a key) (inL b key))) ∧ w' = w := by
  have h1 := Asd.mk (RefHas_calls ha (by omega) key)
  have h2 := Asd.mk (RefHas_calls hb (by omega) key)
  unfold inL
  generalize a.any (hasP key) = x at h1 ⊢
  generalize b.any (hasP key) = y at h2 ⊢
  clear ha hb
  rcases hh with rfl | rfl | rfl <;> cases x <;> cases y <;>
    (go_enter Try.func41, Try.ntmps41
     go_wp2_with fail
     refine h1.out.mono ?_
     rintro e w1 ⟨rfl, rfl⟩
     go_wp2_with fail
     refine h2.out.mono ?_
     rintro e w1 ⟨rfl, rfl⟩
     go_wp2_with fail
     go_ret
     exact ⟨rfl, rfl⟩)

theorem any_false {l : List SpanR} (h : l.all spOk = true) : l.any (fun s => !spOk s) = false := by
  rw [List.any_eq_false]
  intro s hs
  rw [List.all_eq_true.1 h s hs]
  decide
set_option maxHeartbeats 2000000 in
theorem RefWrong_calls {base : Nat} {w : World} {A : Option Addr} {n c : Nat} {l : List SpanR} (hr : Rd base 35 w 2 A n c (sCells l)) :
    Calls Try.prog 30 #[.slice A n c] w fun e w' => e = .returned (.int .i64 (swrong l)) ∧ Below w.heap.size w w' := by
  have hn := hr.count (enc := SpanR.enc) (fun _ => rfl) (by omega)
  by_cases hbig : (4096 : Int) < (n : Int)
  · have hs : swrong l = 2 := by unfold swrong; rw [if_pos (by omega)]
    rw [hs]
    clear hs hn hr
    go_enter Try.func30, Try.ntmps30
    go_wp2_with fail
    go_ret
    exact ⟨rfl, Below.refl _ _⟩
  · have hs : swrong l = if l.any (fun s => !spOk s) then 50 else 0 := by unfold swrong; rw [if_neg (by omega)]
    rw [hs]
    obtain ⟨v, hv⟩ : ∃ v, (if l.any (fun s => !spOk s) then (50 : Int) else 0) = v := ⟨_, rfl⟩
    rw [hv]
    have V := Asd.mk hv
    clear hv
    have R := Asd.mk hr
    have N := Asd.mk hn
    clear hs hn hr
    go_enter Try.func30, Try.ntmps30
    go_wp2_with fail
    go_loopw [3] (fun s3 wr => ∃ k : Nat, s3 = .int .i64 k ∧ k ≤ n ∧ Asd (Below w.heap.size w wr) ∧ Asd ((l.take k).all spOk = true)) (fun s3 _ => n - (intOf s3).toNat)
    case atStart => exact ⟨0, rfl, Nat.zero_le _, ⟨Below.refl _ _⟩, ⟨rfl⟩⟩
    case round =>
      obtain ⟨k, rfl, hkn, BW, I⟩ := hrel
      by_cases hlt : k < n
      · obtain ⟨b, off, rfl, hb, hl, hcs⟩ := (R.out.below BW.out).at_enc (enc := SpanR.enc) (fun _ => rfl) (by omega) hlt
        have hcap : k < c := Nat.lt_of_lt_of_le hlt R.out.cap
        have hc := May_g l[k] wr
        have hta := take_all hl I.out
        have hmem := List.getElem_mem hl
        generalize l[k] = y at hcs hc hta hmem
        have c0 : wr.cell? ⟨b, off + k * 2, none⟩ = some (.string y.from_) := hcs 0 _ rfl
        have c1 : wr.cell? ⟨b, off + k * 2 + 1, none⟩ = some (.string y.to_) := hcs 1 _ rfl
        unfold SpanR.enc at hc
        have TA := Asd.mk hta
        have ME := Asd.mk hmem
        clear hcs hta hmem
        cases hq : spOk y with
        | true =>
          rw [hq] at hc
          have Q := Asd.mk hq
          have C := Asd.mk hc
          clear hq hc
          go_wp2_with fail
          refine C.out.mono ?_
          rintro e w' ⟨rfl, hb'⟩
          have hb' := gr_below hb'
          go_wp2_with fail
          go_roundw
          case measure => simp [intOf]; omega
          case rel => exact ⟨k + 1, by go_num, by omega, ⟨BW.out.trans (hb'.mono BW.out.size)⟩, ⟨TA.out Q.out⟩⟩
        | false =>
          rw [hq] at hc
          have Q := Asd.mk hq
          have C := Asd.mk hc
          clear hq hc
          go_wp2_with fail
          refine C.out.mono ?_
          rintro e w' ⟨rfl, hb'⟩
          have hb' := gr_below hb'
          go_wp2_with fail
          go_ret
          refine ⟨?_, BW.out.trans (hb'.mono BW.out.size)⟩
          have hv : v = 50 := by rw [← V.out, if_pos (List.any_eq_true.2 ⟨y, ME.out, by rw [Q.out]; rfl⟩)]
          rw [hv]
          rfl
      · have hall : l.all spOk = true := by
          have h := I.out
          rwa [List.take_of_length_le (by have := N.out; omega)] at h
        have HALL := Asd.mk hall
        clear hall
        go_wp2_with fail
        go_ret
        exact ⟨by rw [← V.out, any_false HALL.out]; rfl, BW.out⟩
end Go.Proofs.Ytkjopeiohjkhoaa

/- span's sweep: the walk. -/
import Derived.Test.YtkjopeiohjkhoaaSw3
set_option linter.unusedVariables false
set_option linter.unusedSimpArgs false
namespace Go.Proofs.Ytkjopeiohjkhoaa
open Go.RowKit

set_option maxHeartbeats 16000000 in
set_option maxRecDepth 100000 in
theorem sweep_calls (hsort : SortSpec) {base : Nat} {w : World} {g : Nat} (eg : ∀ args w, (callFunc g args).run Try.prog w = .ok (.enter g args) w) {rf : Bool → Bool → Bool} (hrf : rf false false = false)
    (hg : ∀ (W : World) (x y : Bool), Calls Try.prog g #[.bool x, .bool y] W fun e w' => e = .returned (.bool (rf x y)) ∧ w' = W)
    {A B : Option Addr} {n c m d : Nat} {a b : List SpanR} (ha : Rd base 35 w 2 A n c (sCells a)) (hb : Rd base 35 w 2 B m d (sCells b)) (hbs : base ≤ w.heap.size) :
    Calls Try.prog 27 #[.agg #[.func (.func g) #[] #[]], .slice A n c, .slice B m d] w (SwPost rf w a b) := by
  have hcn := ha.count (enc := SpanR.enc) (fun _ => rfl) (by omega)
  have hcm := hb.count (enc := SpanR.enc) (fun _ => rfl) (by omega)
  have NA := Asd.mk hcn
  have NB := Asd.mk hcm
  have HG := Asd.mk hg
  have HS := Asd.mk hsort
  have RF := Asd.mk hrf
  have hal : Below w.heap.size w (w.alloc (.cells #[.func (.func g) #[] #[]] 43)) := (Below.refl _ _).alloc (Nat.le_refl _) _
  have hrule : (w.alloc (.cells #[.func (.func g) #[] #[]] 43)).cell? ⟨w.heap.size, 0, none⟩ = some (.func (.func g) #[] #[]) := (cell_of_row _ _ 0 _ _ _ (heap_alloc_new w _)).trans rfl
  have hsz : w.heap.size < (w.alloc (.cells #[.func (.func g) #[] #[]] 43)).heap.size := by simp
  have RA := Asd.mk (ha.below hal)
  have RB := Asd.mk (hb.below hal)
  have B0 := Asd.mk hal
  have K0 := Asd.mk hrule
  have Z0 := Asd.mk hsz
  clear ha hb hcn hcm hg hsort hrf hal hrule hsz
  go_enter Try.func27, Try.ntmps27
  go_wp2_with fail
  generalize (w.alloc (.cells #[.func (.func g) #[] #[]] 43)) = w0 at *
  refine (swrong_calls RA.out).mono ?_
  rintro e w1 ⟨rfl, hb1⟩
  have B1 := Asd.mk hb1
  clear hb1
  go_wp2_with fail
  refine (swrong_calls (RB.out.below B1.out)).mono ?_
  rintro e w2 ⟨rfl, hb2⟩
  have B2 := Asd.mk (B1.out.trans (hb2.mono B1.out.size))
  clear hb2 B1
  have h2e := two_errs w2 (swrong a) (swrong b)
  have T2 := Asd.mk h2e
  clear h2e
  go_wp2_with fail
  refine (Or2_calls (swrong a) (swrong b) _ _ T2.out.1 T2.out.2).mono ?_
  rintro e w3 ⟨rfl, hb3⟩
  have B3 := Asd.mk (B2.out.trans (((Below.refl w2.heap.size w2).alloc (Nat.le_refl _) _).trans (hb3.mono (by simp)) |>.mono B2.out.size))
  clear hb3 B2 T2
  have hs2 : (if swrong a = 0 then swrong b else swrong a) = swrong2 a b := rfl
  rw [hs2]
  clear hs2
  by_cases he : swrong2 a b = 0
  · have HE := Asd.mk he
    rw [he]
    clear he
    have he := HE.out
    obtain ⟨h4a, h4b⟩ := swrong_ok (l := a) (by unfold swrong2 at he; by_cases h : swrong a = 0; exact h; rw [if_neg h] at he; exact absurd he h)
    obtain ⟨h5a, h5b⟩ := swrong_ok (l := b) (by unfold swrong2 at he; by_cases h : swrong a = 0; (rw [if_pos h] at he; exact he); rw [if_neg h] at he; exact absurd he h)
    have OA := Asd.mk h4b
    have OB := Asd.mk h5b
    have LA := Asd.mk h4a
    have LB := Asd.mk h5a
    have hal4 : Below w3.heap.size w3 (w3.alloc (.cells #[.slice A n c, .slice B m d] 22)) := (Below.refl _ _).alloc (Nat.le_refl _) _
    have hq0 : (w3.alloc (.cells #[.slice A n c, .slice B m d] 22)).cell? ⟨w3.heap.size, 0, none⟩ = some (.slice A n c) := (cell_of_row _ _ 0 _ _ _ (heap_alloc_new w3 _)).trans rfl
    have hq1 : (w3.alloc (.cells #[.slice A n c, .slice B m d] 22)).cell? ⟨w3.heap.size, 1, none⟩ = some (.slice B m d) := (cell_of_row _ _ 1 _ _ _ (heap_alloc_new w3 _)).trans rfl
    have hz4 : w3.heap.size < (w3.alloc (.cells #[.slice A n c, .slice B m d] 22)).heap.size := by simp
    have B4 := Asd.mk (B3.out.trans (hal4.mono B3.out.size))
    have Q0 := Asd.mk hq0
    have Q1 := Asd.mk hq1
    have Z4 := Asd.mk hz4
    clear he h4a h4b h5a h5b hal4 hq0 hq1 hz4
    go_wp2_with fail
    generalize (w3.alloc (.cells #[.slice A n c, .slice B m d] 22)) = W at *
    generalize w3.heap.size = lb at *
    have Z5 := Asd.mk (Nat.lt_of_lt_of_le Z0.out B4.out.size)
    go_loopw [9, 33] (fun s9 s33 wr => ∃ (k ne ce : Nat) (Ae : Option Addr), s9 = .slice Ae ne ce ∧ s33 = .int .i64 k ∧ k ≤ 2 ∧ Asd (Below W.heap.size W wr) ∧ Asd (wr.ownsRow W.heap.size 52 3 (.slice Ae ne ce) ne (eCells (gath a b k)))) (fun _ s33 _ => 2 - (intOf s33).toNat)
    case atStart => exact ⟨0, 0, 0, none, rfl, rfl, by omega, ⟨Below.refl _ _⟩, ⟨World.ownsRow_nil _ _ _ _⟩⟩
    case round =>
      obtain ⟨k, ne, ce, Ae, rfl, rfl, hk, BW, OW⟩ := hrel
      by_cases hlt : k < 2
      · have hck : wr.cell? ⟨lb, k, none⟩ = some (.slice (pick2 k A B) (pick2 k n m) (pick2 k c d)) := by
          refine ((bcell BW.out).1 lb k Z4.out).trans ?_
          rcases Nat.lt_or_ge k 1 with h | h
          · have : k = 0 := by omega
            subst this; exact Q0.out
          · have : k = 1 := by omega
            subst this; exact Q1.out
        have hrl : Rd base 35 W 2 (pick2 k A B) (pick2 k n m) (pick2 k c d) (sCells (pick2 k a b)) := by
          unfold pick2
          split
          · exact RA.out.below B4.out
          · exact RB.out.below B4.out
        have hlen := hrl.count (enc := SpanR.enc) (fun _ => rfl) (by omega)
        have h4k : (pick2 k a b).length ≤ 4096 := by unfold pick2; split; exact LA.out; exact LB.out
        have hgs := gath_step a b hlt
        have hgl := gath_len a b k
        have hne := own_elen OW.out
        have hla := LA.out
        have hlb := LB.out
        have RL := Asd.mk hrl
        have GS := Asd.mk hgs
        have hnle : ne ≤ 16384 := by omega
        generalize gath a b k = L at *
        have HGS := Asd.mk (show gath a b (k + 1) = gath a b (k + 1) from rfl)
        generalize hL' : gath a b (k + 1) = L' at *
        have HL' := Asd.mk hL'
        clear HGS hL'
        generalize pick2 k A B = Al at *
        generalize pick2 k n m = nl at *
        generalize pick2 k c d = cl at *
        generalize pick2 k a b = l at *
        have HL := Asd.mk hlen
        have hnl : nl ≤ 4096 := by omega
        clear hrl hgs hgl hlen hla hlb h4k hne
        go_wp2_with fail
        go_loopw [9, 13, 40] (fun s9 s13 s40 wr => ∃ (j ne ce : Nat) (Ae : Option Addr), s9 = .slice Ae ne ce ∧ s40 = .int .i64 j ∧ j ≤ nl ∧ Asd (Below W.heap.size W wr) ∧ Asd (wr.ownsRow W.heap.size 52 3 (.slice Ae ne ce) ne (eCells (L ++ endsOf k (l.take j)))) ∧ ne ≤ 16384 + 2 * j) (fun _ _ s40 _ => nl - (intOf s40).toNat)
        case atStart => exact ⟨0, ne, ce, Ae, rfl, rfl, by omega, BW, ⟨by simpa [endsOf] using OW.out⟩, by omega⟩
        case round =>
          clear hck BW OW hnle
          obtain ⟨j, nf, cf, Af, rfl, rfl, hj, BV, OV, hnf⟩ := hrel
          by_cases hjl : j < nl
          · obtain ⟨b1, o1, rfl, hb1, hil, hcs⟩ := (RL.out.below BV.out).at_enc (enc := SpanR.enc) (fun _ => rfl) (by omega) hjl
            have hts : endsOf (k : Int) (l.take (j + 1)) = endsOf k (l.take j) ++ end1 k l[j] := by rw [List.take_succ_eq_append_getElem hil, endsOf_snoc]
            have hcap : j < cl := Nat.lt_of_lt_of_le hjl RL.out.cap
            generalize l[j] = s at hcs hts
            obtain ⟨f, t⟩ := s
            have c0 : wr.cell? ⟨b1, o1 + j * 2, none⟩ = some (.string f) := hcs 0 _ rfl
            have c1 : wr.cell? ⟨b1, o1 + j * 2 + 1, none⟩ = some (.string t) := hcs 1 _ rfl
            have TS := Asd.mk hts
            clear hcs hts
            have NO : Asd (∀ i, (Value.slice Af nf cf).ownBlock = some i → i < wr.heap.size) := ⟨fun i hi => (OV.out.lt i hi).2⟩
            have hnf2 : nf ≤ 30000 := by omega
            have hcast := Asd.mk (show (k : Int) = k from rfl)
            by_cases hz : t.size = 0
            · have htl : t.toList = [] := by rw [tl_nil]; exact hz
              have HZ := Asd.mk hz
              clear hz
              go_wp2_with (at_builtin; go_loud (refine wpList_append_mine (base := base) (own := W.heap.size) (n := nf) (m := 1) (v := .slice Af nf cf) (xs := eCells (L ++ endsOf k (l.take j))) (ys := eCells [⟨f, (k : Int), 1⟩]) rfl (.tmp 44) (.tmp 49) 49 rfl elt_end rfl rfl ((OV.out.alloc _).alloc _) (Rd.new2 (by simp) rfl rfl) (end_one _) (by unfold maxLen; omega) (by omega) (Nat.le_trans BV.out.size (by simp; omega)) ?_; intro v8 w8 O8' G8'; obtain ⟨P8, c8, rfl, _⟩ := Rd.of_own (base := base) O8'; have O8 := Asd.mk O8'; have B8 := Asd.mk (((BV.out.alloc BV.out.size (.cells #[.string f, .string t] 35)).alloc (Nat.le_trans BV.out.size (by simp)) (.cells #[.string f, .int .i64 k, .int .i64 1] 52)).grown G8' (Nat.le_trans BV.out.size (by simp; omega)) (fun i hi => (OV.out.lt i hi).1)); have e0 : w8.cell? ⟨wr.heap.size, 0, none⟩ = some (.string f) := (box_cell G8' NO.out 0); have e1 : w8.cell? ⟨wr.heap.size, 1, none⟩ = some (.string t) := (box_cell G8' NO.out 1); clear O8' G8'))
              go_roundw
              case measure => simp [intOf]; omega
              case rel =>
                have hre : eCells (L ++ endsOf k (l.take j)) ++ eCells [⟨f, (k : Int), 1⟩] = eCells (L ++ endsOf k (l.take (j + 1))) := by
                  rw [eCells_snoc, TS.out, end1, if_pos HZ.out, List.append_assoc]
                have O9 := O8.out
                rw [hre] at O9
                exact ⟨_, _, _, ⟨j + 1, nf + 1, c8, P8, rfl, rfl, by omega, ⟨O9⟩, by omega⟩, rfl, rfl, by go_num⟩
            · have htl : ¬ t.toList = [] := by rw [tl_nil]; exact hz
              have hte : ¬ t = ByteArray.empty := by rw [emp_iff]; exact htl
              have hie : t.toList.isEmpty = false := by rw [empty_eq]; exact decide_eq_false hz
              have HZ := Asd.mk hz
              clear hz
              go_wp2_with (first | (at_builtin; go_loud (refine wpList_append_mine (base := base) (own := W.heap.size) (n := nf) (m := 1) (v := .slice Af nf cf) (xs := eCells (L ++ endsOf k (l.take j))) (ys := eCells [⟨f, (k : Int), 1⟩]) rfl (.tmp 44) (.tmp 49) 49 rfl elt_end rfl rfl ((OV.out.alloc _).alloc _) (Rd.new2 (by simp) rfl rfl) (end_one _) (by unfold maxLen; omega) (by omega) (Nat.le_trans BV.out.size (by simp; omega)) ?_; intro v8 w8 O8' G8'; obtain ⟨P8, c8, rfl, _⟩ := Rd.of_own (base := base) O8'; have O8 := Asd.mk O8'; have B8 := Asd.mk (((BV.out.alloc BV.out.size (.cells #[.string f, .string t] 35)).alloc (Nat.le_trans BV.out.size (by simp)) (.cells #[.string f, .int .i64 k, .int .i64 1] 52)).grown G8' (Nat.le_trans BV.out.size (by simp; omega)) (fun i hi => (OV.out.lt i hi).1)); have e0 : w8.cell? ⟨wr.heap.size, 0, none⟩ = some (.string f) := (box_cell G8' NO.out 0); have e1 : w8.cell? ⟨wr.heap.size, 1, none⟩ = some (.string t) := (box_cell G8' NO.out 1); clear O8' G8')) | (at_builtin; refine wpList_append_mine (base := base) (own := W.heap.size) (n := nf + 1) (m := 1) (v := .slice P8 (nf + 1) c8) (xs := eCells (L ++ endsOf k (l.take j)) ++ eCells [⟨f, (k : Int), 1⟩]) (ys := eCells [⟨t, (k : Int), -1⟩]) rfl (.tmp 54) (.tmp 59) 49 rfl elt_end rfl rfl (O8.out.alloc _) (Rd.new_ rfl rfl) (end_one _) (by unfold maxLen; omega) (by omega) (Nat.le_trans B8.out.size (by simp)) ?_; intro v9 w9 O9' G9'; obtain ⟨P9, c9, rfl, _⟩ := Rd.of_own (base := base) O9'; have O9 := Asd.mk O9'; have B9 := Asd.mk ((B8.out.alloc B8.out.size (.cells #[.string t, .int .i64 k, .int .i64 (-1)] 52)).grown G9' (Nat.le_trans B8.out.size (by simp)) (fun i hi => (O8.out.lt i hi).1)); clear O9' G9'))
              go_roundw
              case measure => simp [intOf]; omega
              case rel =>
                have hre : eCells (L ++ endsOf k (l.take j)) ++ eCells [⟨f, (k : Int), 1⟩] ++ eCells [⟨t, (k : Int), -1⟩] = eCells (L ++ endsOf k (l.take (j + 1))) := by
                  rw [eCells_snoc, eCells_snoc, TS.out, end1, if_neg HZ.out]
                  simp
                have O7 := O9.out
                rw [hre] at O7
                exact ⟨_, _, _, ⟨j + 1, nf + 1 + 1, c9, P9, rfl, rfl, by omega, ⟨O7⟩, by omega⟩, rfl, rfl, by go_num⟩
          · have hje : j = nl := by omega
            subst hje
            go_wp2_with fail
            go_roundw
            case measure => simp [intOf]; omega
            case rel =>
              have hre : L ++ endsOf k (l.take j) = L' := by rw [List.take_of_length_le (by rw [HL.out]; exact Nat.le_refl _)]; exact GS.out
              have O7 := OV.out
              rw [hre, ← HL'.out] at O7
              exact ⟨k + 1, nf, cf, Af, rfl, by go_num, by omega, BV, ⟨O7⟩⟩
      · have hk2 : k = 2 := by omega
        subst hk2
        have hne := own_elen OW.out
        have hgl := gath_len a b 2
        have hla := LA.out
        have hlb := LB.out
        have hne2 : ne ≤ 16384 := by omega
        clear hne hgl hla hlb
        go_wp2_with fail
        refine (HS.out wr W.heap.size Ae ne ce (gath a b 2) OW.out (by omega)).mono ?_
        rintro e w5 ⟨rfl, E, hperm, hsrt, hown5, hg5⟩
        have SE : Asd (Srt a b E) := ⟨⟨hperm, hsrt, fun s hs => ((spOk_iff s).1 (OA.out s hs)).2.2, fun s hs => ((spOk_iff s).1 (OB.out s hs)).2.2⟩⟩
        have B5 := Asd.mk (BW.out.grown hg5 BW.out.size (fun k hk => (OW.out.lt k hk).1))
        have hre := Rd.of_own (base := base) hown5
        obtain ⟨Ae', ce', hv, hrd⟩ := hre
        injection hv with hv1 _ hv2
        subst hv1 hv2
        have RE := Asd.mk hrd
        have NE := Asd.mk (own_elen hown5)
        have K5 := Asd.mk (((bcell B5.out).1 w.heap.size 0 Z5.out).trans (((bcell B4.out).1 w.heap.size 0 Z0.out).trans K0.out))
        clear hperm hsrt hown5 hg5 hrd OW BW
        have B6 := Asd.mk (B0.out.trans ((B4.out.trans (B5.out.mono B4.out.size)).mono B0.out.size))
        have Z6 := Asd.mk (Nat.lt_of_lt_of_le Z5.out B5.out.size)
        clear B4 B5 B3 B0 Z4 Z5 Z0 K0 Q0 Q1 RA RB
        go_wp2_with fail
        go_loopw [14, 16, 67] (fun s14 s16 s67 wr => ∃ (i no co : Nat) (Ao : Option Addr) (out : List SpanR) (was : Bool) (ks : List ByteArray), s14 = .slice Ao no co ∧ s16 = .bool was ∧ s67 = .int .i64 i ∧ i ≤ ne ∧ Asd (Below w5.heap.size w5 wr) ∧ Asd (wr.heap[w5.heap.size]? = some (.cells #[.int .i64 (sumJ 0 (E.take i)), .int .i64 (sumJ 1 (E.take i))] 56 (0, 0))) ∧
          Asd (wr.ownsRow w5.heap.size 35 2 (.slice Ao no co) no (sCells out)) ∧ Asd (SwI (fun k => rf (inL a k) (inL b k)) E i out was ks)) (fun _ _ s67 _ => ne - (intOf s67).toNat)
        case atStart => exact ⟨0, 0, 0, none, [], false, [], rfl, rfl, rfl, by omega, ⟨(Below.refl _ _).alloc (Nat.le_refl _) _⟩, ⟨heap_alloc_new w5 _⟩, ⟨World.ownsRow_nil _ _ _ _⟩, ⟨SwI.start _ _⟩⟩
        case round =>
          obtain ⟨i, no, co, Ao, out, was, ks, rfl, rfl, rfl, hi, BW, HO, OW, SI⟩ := hrel
          by_cases hlt : i < ne
          · obtain ⟨eb, eo, rfl, hb1, hil, hcs⟩ := (RE.out.below BW.out).at_enc (enc := EndR.enc) (fun _ => rfl) (by omega) hlt
            have c0 : wr.cell? ⟨eb, eo + i * 3, none⟩ = some (.string E[i].key) := hcs 0 _ rfl
            have c1 : wr.cell? ⟨eb, eo + i * 3 + 1, none⟩ = some (.int .i64 E[i].list) := hcs 1 _ rfl
            have c2 : wr.cell? ⟨eb, eo + i * 3 + 2, none⟩ = some (.int .i64 E[i].by_) := hcs 2 _ rfl
            have hcap : i < ce := Nat.lt_of_lt_of_le hlt RE.out.cap
            have hm := SE.out.mem (List.getElem_mem hil)
            have hbd := fun j => sumJ_bound j (E.take i) (fun e he => (SE.out.mem (List.mem_of_mem_take he)).2)
            have hlen : (E.take i).length ≤ 16384 := by rw [List.length_take]; omega
            have hb0 := hbd 0
            have hb1' := hbd 1
            have hs0 := sumJ_succ 0 E hil
            have hs1 := sumJ_succ 1 E hil
            clear hcs hbd
            generalize hx : E[i].key = x at *
            generalize hy : E[i].list = li at *
            generalize hz : E[i].by_ = bj at *
            have HX := Asd.mk hx
            clear hx hy hz
            have hal : Below wr.heap.size wr (wr.alloc (.cells #[.string x, .int .i64 li, .int .i64 bj] 52)) := (Below.refl _ _).alloc (Nat.le_refl _) _
            have x0 : (wr.alloc (.cells #[.string x, .int .i64 li, .int .i64 bj] 52)).cell? ⟨wr.heap.size, 0, none⟩ = some (.string x) := (cell_of_row _ _ 0 _ _ _ (heap_alloc_new wr _)).trans rfl
            have x1 : (wr.alloc (.cells #[.string x, .int .i64 li, .int .i64 bj] 52)).cell? ⟨wr.heap.size, 1, none⟩ = some (.int .i64 li) := (cell_of_row _ _ 1 _ _ _ (heap_alloc_new wr _)).trans rfl
            have x2 : (wr.alloc (.cells #[.string x, .int .i64 li, .int .i64 bj] 52)).cell? ⟨wr.heap.size, 2, none⟩ = some (.int .i64 bj) := (cell_of_row _ _ 2 _ _ _ (heap_alloc_new wr _)).trans rfl
            have hob : w5.heap.size < wr.heap.size := (Array.getElem?_eq_some_iff.1 HO.out).1
            have X0 := Asd.mk x0
            have X1 := Asd.mk x1
            have X2 := Asd.mk x2
            have BA := Asd.mk hal
            have HA := Asd.mk ((hal.block _ hob).trans HO.out)
            have OA2 := Asd.mk (OW.out.alloc (.cells #[.string x, .int .i64 li, .int .i64 bj] 52))
            have ZA : Asd (wr.heap.size < (wr.alloc (.cells #[.string x, .int .i64 li, .int .i64 bj] 52)).heap.size) := ⟨by simp⟩
            clear x0 x1 x2 hal
            go_wp2_with fail
            clear c0 c1 c2
            generalize (wr.alloc (.cells #[.string x, .int .i64 li, .int .i64 bj] 52)) = w6 at *
            have BW6 := Asd.mk (BW.out.trans (BA.out.mono BW.out.size))
            have NO : Asd (∀ i, (Value.slice Ao no co).ownBlock = some i → i < wr.heap.size) := ⟨fun i hi => (OW.out.lt i hi).2⟩
            generalize hxb : wr.heap.size = xb at *
            clear hxb BW HO OW BA
            generalize sumJ 0 (E.take i) = y0 at *
            generalize sumJ 1 (E.take i) = y1 at *
            have hq : ∃ (q : Nat) (yq : Int), q < 2 ∧ li = q ∧ w6.cell? ⟨w5.heap.size, q, none⟩ = some (.int .i64 yq) ∧ (-16384 ≤ yq ∧ yq ≤ 16384) ∧ sumJ 0 (E.take (i + 1)) = (if q = 0 then yq + bj else y0) ∧ sumJ 1 (E.take (i + 1)) = (if q = 1 then yq + bj else y1) := by
              rcases hm.1 with h | h
              · exact ⟨0, y0, by omega, h, (cell_of_row _ _ 0 _ _ _ HA.out).trans rfl, by omega, by rw [hs0, if_pos h]; rfl, by rw [hs1, if_neg (by omega)]; simp⟩
              · exact ⟨1, y1, by omega, h, (cell_of_row _ _ 1 _ _ _ HA.out).trans rfl, by omega, by rw [hs0, if_neg (by omega)]; simp, by rw [hs1, if_pos h]; rfl⟩
            obtain ⟨q, yq, hq2, rfl, k0, hyq, hs0', hs1'⟩ := hq
            have hfz : w6.frozen? ⟨w5.heap.size, q, none⟩ = false := frozen_of_row _ _ q _ _ HA.out
            have HT : Asd (IsT w6 w5.heap.size 56) := ⟨_, _, HA.out⟩
            have H7 : Asd (((w6.setCell ⟨w5.heap.size, q, none⟩ (.int .i64 (yq + bj))).drew).heap[w5.heap.size]? = some (.cells #[.int .i64 (sumJ 0 (E.take (i + 1))), .int .i64 (sumJ 1 (E.take (i + 1)))] 56 (0, 0))) := ⟨by rw [hs0', hs1']; exact open_put (w := w6) HA.out hq2⟩
            have B7 : Asd (Below w5.heap.size w5 ((w6.setCell ⟨w5.heap.size, q, none⟩ (.int .i64 (yq + bj))).drew)) := ⟨(BW6.out.setCell (p := ⟨w5.heap.size, q, none⟩) (Nat.le_refl _) _).drew⟩
            have O7 : Asd (((w6.setCell ⟨w5.heap.size, q, none⟩ (.int .i64 (yq + bj))).drew).ownsRow w5.heap.size 35 2 (.slice Ao no co) no (sCells out)) := ⟨own_set OA2.out (p := ⟨w5.heap.size, q, none⟩) HT.out (by decide) _⟩
            have X7 : Asd (((w6.setCell ⟨w5.heap.size, q, none⟩ (.int .i64 (yq + bj))).drew).cell? ⟨xb, 0, none⟩ = some (.string x)) := ⟨(World.cell?_of_block (a := ⟨xb, 0, none⟩) (w := w6) (Below.heap_setCell w6 ⟨w5.heap.size, q, none⟩ _ xb (fun e => by simp only at e; omega))).trans X0.out⟩
            have hwz : wrap64 (yq + bj) = yq + bj ∧ IntKind.i64.wrap (yq + bj) = yq + bj := wrap_in (by omega)
            have hw1 := hwz.1
            have hw2 := hwz.2
            have hqi : (0 : Int) ≤ (q : Int) ∧ (q : Int) < 2 := by omega
            have hS0 := Asd.mk hs0'
            have hS1 := Asd.mk hs1'
            clear hs0 hs1 hs0' hs1' hm hb0 hb1' hlen hyq HA hwz
            have x0 := X0.out
            have x1 := X1.out
            have x2 := X2.out
            go_region
            clear hw1 hw2 hqi k0 hfz x0 x1 x2
            generalize ((w6.setCell ⟨w5.heap.size, q, none⟩ (.int .i64 (yq + bj))).drew) = w7 at *
            clear HT BW6 OA2 X0 X1 X2
            have LX7 : Asd (xb < w7.heap.size) := ⟨World.block_lt_of_cell? w7 ⟨xb, 0, none⟩ X7.out⟩
            have K7 := Asd.mk (((bcell B7.out).1 w.heap.size 0 Z6.out).trans K5.out)
            have x0 := X7.out
            have hi6 : i ≤ 1000000 := by omega
            have W1 := Asd.mk (And.intro (wrap_in (z := (i : Int) + 1) (by omega)).1 (wrap_in (z := (i : Int) + 1) (by omega)).2)
            have CC : Asd ((0 : Int) ≤ (i : Int) ∧ (i : Int) ≤ (i : Int) + 1 ∧ (0 : Int) ≤ (i : Int) + 1) := ⟨by omega⟩
            by_cases hcont : ∃ h1 : i + 1 < E.length, E[i + 1].key = x
            · obtain ⟨h1, h2⟩ := hcont
              have hn : i + 1 < ne := by have := NE.out; omega
              obtain ⟨eb', eo', hA', _, hil', hcs⟩ := (RE.out.below B7.out).at_enc (enc := EndR.enc) (fun _ => rfl) (by omega) hn
              cases hA'
              have d0 : w7.cell? ⟨eb, eo + (i + 1) * 3, none⟩ = some (.string x) := (hcs 0 _ rfl).trans (by rw [h2])
              have H2 := Asd.mk h2
              have hcap2 : i + 1 < ce := Nat.lt_of_lt_of_le hn RE.out.cap
              have hdec : ((i : Int) + 1 < (ne : Int)) := by omega
              have hdec2 : ((i : Int) + 1 < (ce : Int)) := by omega
              have w1 := W1.out.1
              have w2' := W1.out.2
              have cc := CC.out
              clear hcs h2
              go_wp2_with fail
              go_quiet (fail)
              clear w1 w2' cc hdec hdec2 d0
              go_wp2_with fail
              go_roundw
              case measure => simp [intOf]; omega
              case rel => exact ⟨i + 1, no, co, Ao, out, was, ks, rfl, rfl, by go_num, by omega, ⟨B7.out.trans (below_dn _ _)⟩, ⟨H7.out⟩, ⟨O7.out⟩, ⟨SI.out.cont h1 (H2.out.trans HX.out.symm)⟩⟩
            · have hcomp : ∀ h1 : i + 1 < E.length, E[i + 1].key ≠ x := fun h1 h2 => hcont ⟨h1, h2⟩
              have HC := Asd.mk hcomp
              clear hcomp hcont
              by_cases hn : i + 1 < ne
              · obtain ⟨eb', eo', hA', _, hil', hcs⟩ := (RE.out.below B7.out).at_enc (enc := EndR.enc) (fun _ => rfl) (by omega) hn
                cases hA'
                have h2 := HC.out hil'
                have d0 : w7.cell? ⟨eb, eo + (i + 1) * 3, none⟩ = some (.string E[i + 1].key) := hcs 0 _ rfl
                generalize E[i + 1].key = x' at d0 h2
                have h3 : (x'.toList == x.toList) = false := by rw [same_eq]; exact decide_eq_false h2
                have h4 : ¬ x'.toList = x.toList := fun e => h2 (by rw [toList_eq, toList_eq] at e; exact key_ext e)
                have hcap2 : i + 1 < ce := Nat.lt_of_lt_of_le hn RE.out.cap
                have hdec : ((i : Int) + 1 < (ne : Int)) := by omega
                have hdec2 : ((i : Int) + 1 < (ce : Int)) := by omega
                have w1 := W1.out.1
                have w2' := W1.out.2
                have cc := CC.out
                clear hcs
                go_wp2_with fail
                go_quiet (fail)
                clear w1 w2' cc hdec hdec2 d0 h2 h3 h4
                have B8 : Asd (Below w5.heap.size w5 (w7.drewN nq)) := ⟨B7.out.trans (below_dn _ _)⟩
                have H8 : Asd ((w7.drewN nq).heap[w5.heap.size]? = some (.cells #[.int .i64 (sumJ 0 (E.take (i + 1))), .int .i64 (sumJ 1 (E.take (i + 1)))] 56 (0, 0))) := ⟨H7.out⟩
                have O8 : Asd ((w7.drewN nq).ownsRow w5.heap.size 35 2 (.slice Ao no co) no (sCells out)) := ⟨O7.out⟩
                have X8 : Asd ((w7.drewN nq).cell? ⟨xb, 0, none⟩ = some (.string x)) := ⟨X7.out⟩
                have K8 : Asd ((w7.drewN nq).cell? ⟨w.heap.size, 0, none⟩ = some (.func (.func g) #[] #[])) := ⟨K7.out⟩
                have LX : Asd (xb < (w7.drewN nq).heap.size) := ⟨LX7.out⟩
                clear B7 H7 O7 X7 K7 LX7 x0
                generalize (w7.drewN nq) = w8 at *
                have hop := SE.out.open_ hil (fun h1 => by rw [HX.out]; exact HC.out h1)
                rw [HX.out] at hop
                have OP := Asd.mk hop
                have y0c : w8.cell? ⟨w5.heap.size, 0, none⟩ = some (.int .i64 (sumJ 0 (E.take (i + 1)))) := (cell_of_row _ _ 0 _ _ _ H8.out).trans rfl
                have y1c : w8.cell? ⟨w5.heap.size, 1, none⟩ = some (.int .i64 (sumJ 1 (E.take (i + 1)))) := (cell_of_row _ _ 1 _ _ _ H8.out).trans rfl
                have k8 := K8.out
                have x8 := X8.out
                have NXT : Asd (∀ y ∈ ks, klt y x) := ⟨fun y hy => HX.out ▸ SI.out.next hil y hy⟩
                have STP : Asd (∀ (out' : List SpanR) (was' : Bool), Mk (fun k => rf (inL a k) (inL b k)) (ks ++ [x]) out' was' → SwI (fun k => rf (inL a k) (inL b k)) E (i + 1) out' was' (ks ++ [x])) := ⟨fun out' was' hm => by
                  have h := SI.out.step SE.out hil (fun h1 => by rw [HX.out]; exact HC.out h1) (out' := out') (was' := was') (by rw [HX.out]; exact hm)
                  rw [HX.out] at h
                  exact h⟩
                have hno : out.length = no := own_slen O8.out
                have hno2 : no ≤ 16384 := by
                  have h1 := SI.out.st.len
                  have h2 := SI.out.cnt
                  omega
                have NOL := Asd.mk hno
                have SIZ := Asd.mk (B8.out.size)
                clear hop hno HC
                generalize hs0 : sumJ 0 (E.take (i + 1)) = s0 at y0c OP H8 ⊢
                generalize hs1 : sumJ 1 (E.take (i + 1)) = s1 at y1c OP H8 ⊢
                have S0 := Asd.mk hs0
                have S1 := Asd.mk hs1
                clear hs0 hs1
                have MST := Asd.mk SI.out.st
                have i1c : Asd ((i : Int) + 1 = ((i + 1 : Nat) : Int)) := ⟨by omega⟩
                clear SI W1 CC
                go_wp2_with fail
                refine (HG.out _ _ _).mono ?_
                rintro e w9 ⟨rfl, hw9⟩
                subst hw9
                rw [OP.out.1, OP.out.2]
                clear y0c y1c OP k8
                generalize hisq : rf (inL a x) (inL b x) = is
                have HIS := Asd.mk hisq
                clear hisq
                generalize hww : was = wz
                have WZ := Asd.mk hww
                clear hww
                cases is
                · cases wz
                  · go_wp2_with fail
                    go_roundw
                    case measure => simp [intOf]; omega
                    case rel => exact ⟨i + 1, no, co, Ao, out, false, ks ++ [x], rfl, rfl, by go_num, by omega, B8, ⟨by rw [S0.out, S1.out]; exact H8.out⟩, O8, ⟨STP.out _ _ ((WZ.out ▸ MST.out).same NXT.out HIS.out)⟩⟩
                  · obtain ⟨o, y, ho⟩ := MST.out.op WZ.out
                    have HO := Asd.mk ho
                    clear ho
                    have hol : o.length + 1 = no := by have := NOL.out; rw [HO.out] at this; simpa using this
                    obtain ⟨m1, hmm⟩ : ∃ m1, o.length = m1 := ⟨_, rfl⟩
                    rw [hmm] at hol
                    obtain ⟨gb, hgb⟩ := own_at O8.out (by omega)
                    subst hgb
                    have O8' := Asd.mk (HO.out ▸ O8.out)
                    have hcap := own_cap O8.out
                    have hfr := own_frozen O8.out (m1 * 2 + 1)
                    have hcl := own_cell O8'.out (j := m1 * 2 + 1) (u := .string ⟨#[]⟩) (by omega) (by rw [← hmm]; exact sl_last o y)
                    have hgx : gb ≠ xb := by
                      have := NO.out gb rfl
                      omega
                    have hgo : w5.heap.size ≠ gb := fun e => by
                      obtain ⟨⟨c2, f2, h2⟩, _⟩ := own_ist O8.out gb rfl
                      rw [← e, H8.out] at h2
                      injection h2 with h2
                      injection h2 with _ h2
                      exact absurd h2 (by decide)
                    have hgl := O8.out.lt gb rfl
                    have GL := Asd.mk hgl
                    have H9 : Asd ((w9.setCell ⟨gb, m1 * 2 + 1, none⟩ (.string x)).heap[w5.heap.size]? = some (.cells #[.int .i64 s0, .int .i64 s1] 56 (0, 0))) := ⟨(Below.heap_setCell w9 ⟨gb, m1 * 2 + 1, none⟩ _ _ hgo).trans H8.out⟩
                    have B9 : Asd (Below w5.heap.size w5 (w9.setCell ⟨gb, m1 * 2 + 1, none⟩ (.string x))) := ⟨B8.out.setCell (p := ⟨gb, m1 * 2 + 1, none⟩) hgl.1 _⟩
                    clear hgl hgo
                    have hput := own_put O8'.out (j := m1 * 2 + 1) (by omega) (.string x)
                    rw [show (sCells (o ++ [⟨y, ⟨#[]⟩⟩])).set (m1 * 2 + 1) (.string x) = sCells (o ++ [⟨y, x⟩]) by rw [← hmm]; exact sCells_set o ⟨y, ⟨#[]⟩⟩ x] at hput
                    have PUT := Asd.mk hput
                    clear hput
                    have hw : wrap64 ((no : Int) - 1) = (m1 : Int) := by have := (wrap_in (z := (no : Int) - 1) (by omega)).1; rw [this]; omega
                    have hw' : IntKind.i64.wrap ((no : Int) - 1) = (m1 : Int) := by have := (wrap_in (z := (no : Int) - 1) (by omega)).2; rw [this]; omega
                    have hm1 : m1 < no := by omega
                    have hm2 : m1 < co := by omega
                    clear hol hno2
                    go_wp2_with fail
                    go_roundw
                    case measure => simp [intOf]; omega
                    case rel => exact ⟨i + 1, no, co, some ⟨gb, 0, none⟩, o ++ [⟨y, x⟩], false, ks ++ [x], rfl, rfl, by go_num, by omega, B9, ⟨by rw [S0.out, S1.out]; exact H9.out⟩, PUT, ⟨STP.out _ _ (Mk.closes (HO.out ▸ WZ.out ▸ MST.out) NXT.out HIS.out)⟩⟩
                · cases wz
                  · have OK9 : Asd (∀ (w10 : World) (o : Obj), (w9.alloc o).grownBy w10 (Value.slice Ao no co).ownBlock → w10.heap[w5.heap.size]? = some (.cells #[.int .i64 s0, .int .i64 s1] 56 (0, 0))) := ⟨fun w10 o hg => open_keep H8.out O8.out (by decide) hg⟩
                    go_wp2_with (at_builtin; go_loud (refine wpList_append_mine (base := base) (own := w5.heap.size) (n := no) (m := 1) (v := .slice Ao no co) (xs := sCells out) (ys := sCells [⟨x, ⟨#[]⟩⟩]) rfl (.tmp 111) (.tmp 115) 22 rfl elt_span rfl rfl (O8.out.alloc _) (Rd.new_ rfl rfl) (span_one _) (by unfold maxLen; omega) (by omega) (Nat.le_trans SIZ.out (by simp)) ?_; intro v9 w9 O9' G9'; obtain ⟨P9, c9, rfl, _⟩ := Rd.of_own (base := base) O9'; have O9 := Asd.mk O9'; have B9 := Asd.mk ((B8.out.alloc B8.out.size (.cells #[.string x, .string ⟨#[]⟩] 35)).grown G9' (Nat.le_trans B8.out.size (by simp)) (fun i hi => (O8.out.lt i hi).1)); have H9 := Asd.mk (OK9.out _ _ G9'); clear O9' G9'))
                    go_roundw
                    case measure => simp [intOf]; omega
                    case rel => exact ⟨i + 1, no + 1, c9, P9, out ++ [⟨x, ⟨#[]⟩⟩], true, ks ++ [x], rfl, rfl, by go_num, by omega, B9, ⟨by rw [S0.out, S1.out]; exact H9.out⟩, ⟨by have := O9.out; unfold sCells at this ⊢; rw [List.flatMap_append]; exact this⟩, ⟨STP.out _ _ ((WZ.out ▸ MST.out).opens NXT.out HIS.out)⟩⟩
                  · go_wp2_with fail
                    go_roundw
                    case measure => simp [intOf]; omega
                    case rel => exact ⟨i + 1, no, co, Ao, out, true, ks ++ [x], rfl, rfl, by go_num, by omega, B8, ⟨by rw [S0.out, S1.out]; exact H8.out⟩, O8, ⟨STP.out _ _ ((WZ.out ▸ MST.out).same NXT.out HIS.out)⟩⟩
              · have hE1 : ¬ ((i : Int) + 1 < (ne : Int)) := by omega
                have hE2 : decide ((i : Int) + 1 < (ne : Int)) = false := decide_eq_false hE1
                have hE3 : (ne : Int) ≤ (i : Int) + 1 := by omega
                have w1 := W1.out.1
                have w2' := W1.out.2
                have cc := CC.out
                go_wp2_with fail
                go_quiet (fail)
                clear w1 w2' cc hE1 hE2 hE3
                have B8 : Asd (Below w5.heap.size w5 (w7.drewN nq)) := ⟨B7.out.trans (below_dn _ _)⟩
                have H8 : Asd ((w7.drewN nq).heap[w5.heap.size]? = some (.cells #[.int .i64 (sumJ 0 (E.take (i + 1))), .int .i64 (sumJ 1 (E.take (i + 1)))] 56 (0, 0))) := ⟨H7.out⟩
                have O8 : Asd ((w7.drewN nq).ownsRow w5.heap.size 35 2 (.slice Ao no co) no (sCells out)) := ⟨O7.out⟩
                have X8 : Asd ((w7.drewN nq).cell? ⟨xb, 0, none⟩ = some (.string x)) := ⟨X7.out⟩
                have K8 : Asd ((w7.drewN nq).cell? ⟨w.heap.size, 0, none⟩ = some (.func (.func g) #[] #[])) := ⟨K7.out⟩
                have LX : Asd (xb < (w7.drewN nq).heap.size) := ⟨LX7.out⟩
                clear B7 H7 O7 X7 K7 LX7 x0
                generalize (w7.drewN nq) = w8 at *
                have hop := SE.out.open_ hil (fun h1 => by rw [HX.out]; exact HC.out h1)
                rw [HX.out] at hop
                have OP := Asd.mk hop
                have y0c : w8.cell? ⟨w5.heap.size, 0, none⟩ = some (.int .i64 (sumJ 0 (E.take (i + 1)))) := (cell_of_row _ _ 0 _ _ _ H8.out).trans rfl
                have y1c : w8.cell? ⟨w5.heap.size, 1, none⟩ = some (.int .i64 (sumJ 1 (E.take (i + 1)))) := (cell_of_row _ _ 1 _ _ _ H8.out).trans rfl
                have k8 := K8.out
                have x8 := X8.out
                have NXT : Asd (∀ y ∈ ks, klt y x) := ⟨fun y hy => HX.out ▸ SI.out.next hil y hy⟩
                have STP : Asd (∀ (out' : List SpanR) (was' : Bool), Mk (fun k => rf (inL a k) (inL b k)) (ks ++ [x]) out' was' → SwI (fun k => rf (inL a k) (inL b k)) E (i + 1) out' was' (ks ++ [x])) := ⟨fun out' was' hm => by
                  have h := SI.out.step SE.out hil (fun h1 => by rw [HX.out]; exact HC.out h1) (out' := out') (was' := was') (by rw [HX.out]; exact hm)
                  rw [HX.out] at h
                  exact h⟩
                have hno : out.length = no := own_slen O8.out
                have hno2 : no ≤ 16384 := by
                  have h1 := SI.out.st.len
                  have h2 := SI.out.cnt
                  omega
                have NOL := Asd.mk hno
                have SIZ := Asd.mk (B8.out.size)
                clear hop hno HC
                generalize hs0 : sumJ 0 (E.take (i + 1)) = s0 at y0c OP H8 ⊢
                generalize hs1 : sumJ 1 (E.take (i + 1)) = s1 at y1c OP H8 ⊢
                have S0 := Asd.mk hs0
                have S1 := Asd.mk hs1
                clear hs0 hs1
                have MST := Asd.mk SI.out.st
                have i1c : Asd ((i : Int) + 1 = ((i + 1 : Nat) : Int)) := ⟨by omega⟩
                clear SI W1 CC
                go_wp2_with fail
                refine (HG.out _ _ _).mono ?_
                rintro e w9 ⟨rfl, hw9⟩
                subst hw9
                rw [OP.out.1, OP.out.2]
                clear y0c y1c OP k8
                generalize hisq : rf (inL a x) (inL b x) = is
                have HIS := Asd.mk hisq
                clear hisq
                generalize hww : was = wz
                have WZ := Asd.mk hww
                clear hww
                cases is
                · cases wz
                  · go_wp2_with fail
                    go_roundw
                    case measure => simp [intOf]; omega
                    case rel => exact ⟨i + 1, no, co, Ao, out, false, ks ++ [x], rfl, rfl, by go_num, by omega, B8, ⟨by rw [S0.out, S1.out]; exact H8.out⟩, O8, ⟨STP.out _ _ ((WZ.out ▸ MST.out).same NXT.out HIS.out)⟩⟩
                  · obtain ⟨o, y, ho⟩ := MST.out.op WZ.out
                    have HO := Asd.mk ho
                    clear ho
                    have hol : o.length + 1 = no := by have := NOL.out; rw [HO.out] at this; simpa using this
                    obtain ⟨m1, hmm⟩ : ∃ m1, o.length = m1 := ⟨_, rfl⟩
                    rw [hmm] at hol
                    obtain ⟨gb, hgb⟩ := own_at O8.out (by omega)
                    subst hgb
                    have O8' := Asd.mk (HO.out ▸ O8.out)
                    have hcap := own_cap O8.out
                    have hfr := own_frozen O8.out (m1 * 2 + 1)
                    have hcl := own_cell O8'.out (j := m1 * 2 + 1) (u := .string ⟨#[]⟩) (by omega) (by rw [← hmm]; exact sl_last o y)
                    have hgx : gb ≠ xb := by
                      have := NO.out gb rfl
                      omega
                    have hgo : w5.heap.size ≠ gb := fun e => by
                      obtain ⟨⟨c2, f2, h2⟩, _⟩ := own_ist O8.out gb rfl
                      rw [← e, H8.out] at h2
                      injection h2 with h2
                      injection h2 with _ h2
                      exact absurd h2 (by decide)
                    have hgl := O8.out.lt gb rfl
                    have GL := Asd.mk hgl
                    have H9 : Asd ((w9.setCell ⟨gb, m1 * 2 + 1, none⟩ (.string x)).heap[w5.heap.size]? = some (.cells #[.int .i64 s0, .int .i64 s1] 56 (0, 0))) := ⟨(Below.heap_setCell w9 ⟨gb, m1 * 2 + 1, none⟩ _ _ hgo).trans H8.out⟩
                    have B9 : Asd (Below w5.heap.size w5 (w9.setCell ⟨gb, m1 * 2 + 1, none⟩ (.string x))) := ⟨B8.out.setCell (p := ⟨gb, m1 * 2 + 1, none⟩) hgl.1 _⟩
                    clear hgl hgo
                    have hput := own_put O8'.out (j := m1 * 2 + 1) (by omega) (.string x)
                    rw [show (sCells (o ++ [⟨y, ⟨#[]⟩⟩])).set (m1 * 2 + 1) (.string x) = sCells (o ++ [⟨y, x⟩]) by rw [← hmm]; exact sCells_set o ⟨y, ⟨#[]⟩⟩ x] at hput
                    have PUT := Asd.mk hput
                    clear hput
                    have hw : wrap64 ((no : Int) - 1) = (m1 : Int) := by have := (wrap_in (z := (no : Int) - 1) (by omega)).1; rw [this]; omega
                    have hw' : IntKind.i64.wrap ((no : Int) - 1) = (m1 : Int) := by have := (wrap_in (z := (no : Int) - 1) (by omega)).2; rw [this]; omega
                    have hm1 : m1 < no := by omega
                    have hm2 : m1 < co := by omega
                    clear hol hno2
                    go_wp2_with fail
                    go_roundw
                    case measure => simp [intOf]; omega
                    case rel => exact ⟨i + 1, no, co, some ⟨gb, 0, none⟩, o ++ [⟨y, x⟩], false, ks ++ [x], rfl, rfl, by go_num, by omega, B9, ⟨by rw [S0.out, S1.out]; exact H9.out⟩, PUT, ⟨STP.out _ _ (Mk.closes (HO.out ▸ WZ.out ▸ MST.out) NXT.out HIS.out)⟩⟩
                · cases wz
                  · have OK9 : Asd (∀ (w10 : World) (o : Obj), (w9.alloc o).grownBy w10 (Value.slice Ao no co).ownBlock → w10.heap[w5.heap.size]? = some (.cells #[.int .i64 s0, .int .i64 s1] 56 (0, 0))) := ⟨fun w10 o hg => open_keep H8.out O8.out (by decide) hg⟩
                    go_wp2_with (at_builtin; go_loud (refine wpList_append_mine (base := base) (own := w5.heap.size) (n := no) (m := 1) (v := .slice Ao no co) (xs := sCells out) (ys := sCells [⟨x, ⟨#[]⟩⟩]) rfl (.tmp 111) (.tmp 115) 22 rfl elt_span rfl rfl (O8.out.alloc _) (Rd.new_ rfl rfl) (span_one _) (by unfold maxLen; omega) (by omega) (Nat.le_trans SIZ.out (by simp)) ?_; intro v9 w9 O9' G9'; obtain ⟨P9, c9, rfl, _⟩ := Rd.of_own (base := base) O9'; have O9 := Asd.mk O9'; have B9 := Asd.mk ((B8.out.alloc B8.out.size (.cells #[.string x, .string ⟨#[]⟩] 35)).grown G9' (Nat.le_trans B8.out.size (by simp)) (fun i hi => (O8.out.lt i hi).1)); have H9 := Asd.mk (OK9.out _ _ G9'); clear O9' G9'))
                    go_roundw
                    case measure => simp [intOf]; omega
                    case rel => exact ⟨i + 1, no + 1, c9, P9, out ++ [⟨x, ⟨#[]⟩⟩], true, ks ++ [x], rfl, rfl, by go_num, by omega, B9, ⟨by rw [S0.out, S1.out]; exact H9.out⟩, ⟨by have := O9.out; unfold sCells at this ⊢; rw [List.flatMap_append]; exact this⟩, ⟨STP.out _ _ ((WZ.out ▸ MST.out).opens NXT.out HIS.out)⟩⟩
                  · go_wp2_with fail
                    go_roundw
                    case measure => simp [intOf]; omega
                    case rel => exact ⟨i + 1, no, co, Ao, out, true, ks ++ [x], rfl, rfl, by go_num, by omega, B8, ⟨by rw [S0.out, S1.out]; exact H8.out⟩, O8, ⟨STP.out _ _ ((WZ.out ▸ MST.out).same NXT.out HIS.out)⟩⟩
          · have hie : i = ne := by omega
            have hno : out.length = no := own_slen OW.out
            have MD : Asd (Made rf a b out) := ⟨SwI.made RF.out SE.out (by have h := SI.out; rw [hie, ← NE.out] at h; exact h)⟩
            by_cases hbig : (4096 : Int) < (no : Int)
            · go_wp2_with fail
              go_ret2
              exact ⟨none, 0, 0, [], 2, rfl, B6.out.trans (BW.out.mono B6.out.size), World.ownsRow_nil _ _ _ _, .inr ⟨HE.out, out, MD.out, .inr ⟨by omega, rfl, rfl⟩⟩⟩
            · go_wp2_with fail
              go_ret2
              exact ⟨Ao, no, co, out, 0, rfl, B6.out.trans (BW.out.mono B6.out.size), own_le OW.out B6.out.size, .inr ⟨HE.out, out, MD.out, .inl ⟨by omega, rfl, rfl⟩⟩⟩
  · have HE := Asd.mk he
    have he1 : (swrong2 a b == 0) = false := by simpa using he
    have he2 : (swrong2 a b != 0) = true := by simpa using he
    clear he
    generalize hE : swrong2 a b = E at *
    have HEE := Asd.mk hE
    clear hE
    go_wp2_with fail
    go_ret2
    refine ⟨none, 0, 0, [], E, rfl, B0.out.trans (B3.out.mono B0.out.size), World.ownsRow_nil _ _ _ _, .inl ⟨by rw [HEE.out]; exact HE.out, HEE.out.symm, rfl⟩⟩
end Go.Proofs.Ytkjopeiohjkhoaa
